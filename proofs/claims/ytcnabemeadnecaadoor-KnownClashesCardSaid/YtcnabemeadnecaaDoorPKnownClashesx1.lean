-- written by prn.py, a program of this session, over the kit's printer
import Derived.Test.YtcnabemeadnecaaDoorPKnownClashesx0
namespace Go.Proofs.YtcnabemeadnecaaDoor.PKnownClashes
open Go.RowKit Go.Proofs.YtcnabemeadnecaaDoorW.PrintWords Go.Proofs.YtcnabemeadnecaaDoorW.PrintLast Go.Proofs.YtcnabemeadnecaaDoorW.PrintMore Go.Proofs.YtcnabemeadnecaaDoorW.PrintMine
attribute [local go_sem] max2_int min2_int max_two min_two max_three min_three max_four min_four   -- for this text's walks alone
set_option linter.unusedVariables false
set_option linter.unusedSimpArgs false

/-! ### wrackmake_Below: function 7 -/
def wrackmake_Below.f (a0 : Int) (a1 : Int) : Option (Int) := if a1 = 0 then (none) else (if (Int.tmod a0 a1) < 0 then (some (wrap64 ((Int.tmod a0 a1) + a1))) else (some (Int.tmod a0 a1)))
set_option maxHeartbeats 8000000 in
set_option maxRecDepth 100000 in
theorem wrackmake_Below.calls (a0 : Int) (a1 : Int) (r : Int) (w : World) (h : wrackmake_Below.f a0 a1 = some r) :
    Calls Tryd.prog 7 #[.int .i64 a0, .int .i64 a1] w fun e w' => e = .returned (.int .i64 r) ∧ Drawn0 w w' := by
  have H : (if a1 = 0 then (none) else (if (Int.tmod a0 a1) < 0 then (some (wrap64 ((Int.tmod a0 a1) + a1))) else (some (Int.tmod a0 a1)))) = some r := h
  clear h
  by_cases c3 : a1 = 0
  · rw [if_pos c3] at H
    exact absurd H (by simp)
  · rw [if_neg c3] at H
    have c3b0 : (a1 == 0) = false := beq_eq_false_iff_ne.mpr c3
    have c3b1 : (a1 != 0) = true := bne_iff_ne.mpr c3
    by_cases c4 : (Int.tmod a0 a1) < 0
    · rw [if_pos c4] at H
      have c4b0 : decide ((Int.tmod a0 a1) < 0) = true := decide_eq_true c4
      clear c4
      obtain rfl := Option.some.inj H
      go_enter Tryd.func7, Tryd.ntmps7
      go_wp2
      go_ret
      exact ⟨by first | rfl | (simp; done) | (simp [*]; done), by repeat (first | exact Drawn0.refl _ | apply Drawn0.step)⟩
    · rw [if_neg c4] at H
      have c4b0 : decide ((Int.tmod a0 a1) < 0) = false := decide_eq_false c4
      clear c4
      obtain rfl := Option.some.inj H
      go_enter Tryd.func7, Tryd.ntmps7
      go_wp2
      go_ret
      exact ⟨by first | rfl | (simp; done) | (simp [*]; done), by repeat (first | exact Drawn0.refl _ | apply Drawn0.step)⟩

/-- A state of type 42 at block g of W; what its slices lead to came in by w0. -/
def IsS42 (w0 W : World) (g : Nat) (f0 : List Int) : Prop := ∃ A0 c0, W.heap[g]? = some (.cells #[.slice A0 f0.length c0] 42 (0, 0)) ∧ w0.heap.size ≤ g ∧ Kd.C (Kd.int .i64) w0 A0 f0.length f0 ∧ f0.length ≤ c0
theorem IsS42.grown {w0 W : World} {g : Nat} {f0 : List Int} {W1 : World} {row : Option Nat} (h : IsS42 w0 W g f0) (hw : W.grownBy W1 row) (hne : some g ≠ row) : IsS42 w0 W1 g f0 := by
  obtain ⟨A0, c0, hb, hg, hr0, hl0⟩ := h
  exact ⟨A0, c0, blk_grown hb hw hne, hg, hr0, hl0⟩
theorem IsS42.own_neN {w0 W : World} {g : Nat} {f0 : List Int} {α : Type} {d : Kd α} {e : Nat} {base : Nat} {ok : Nat → Prop} {v : Value} {xs : List α} (h : IsS42 w0 W g f0) (ho : Kd.N d e W base ok v xs) (ht : e ≠ 42) : some g ≠ v.ownBlock := by
  obtain ⟨A0, c0, hb, hg, hr0, hl0⟩ := h
  exact Kd.N_ne ho hb ht
theorem IsS42.fresh {w0 W : World} {g : Nat} {f0 : List Int} (h : IsS42 w0 W g f0) : ∀ k, W.heap.size ≤ k → k ≠ g := by
  obtain ⟨A0, c0, hb, hg, hr0, hl0⟩ := h
  exact Kd.freshB hb
theorem IsS42.kept {w0 W : World} {g : Nat} {f0 : List Int} {W1 : World} {S : Nat → Prop} (h : IsS42 w0 W g f0) (hk : Kept W W1 S) (hne : ¬ S g) : IsS42 w0 W1 g f0 := by
  obtain ⟨A0, c0, hb, hg, hr0, hl0⟩ := h
  exact ⟨A0, c0, blk_kept hb hk hne, hg, hr0, hl0⟩
theorem IsS42.below {w0 W : World} {g : Nat} {f0 : List Int} {W1 : World} (h : IsS42 w0 W g f0) (hw : Below W.heap.size W W1) : IsS42 w0 W1 g f0 := h.grown (grown_of_below hw none) (by simp)
theorem IsS42.alloc {w0 W : World} {g : Nat} {f0 : List Int} (h : IsS42 w0 W g f0) (o : Obj) : IsS42 w0 (W.alloc o) g f0 := h.below (below_alloc (Below.refl _ _) o)
theorem IsS42.drewN {w0 W : World} {g : Nat} {f0 : List Int} (h : IsS42 w0 W g f0) (m : Nat) : IsS42 w0 (W.drewN m) g f0 := h
theorem IsS42.drew {w0 W : World} {g : Nat} {f0 : List Int} (h : IsS42 w0 W g f0) : IsS42 w0 W.drew g f0 := h
theorem IsS42.at_ {w0 W : World} {g : Nat} {f0 : List Int} {w' : World} {m : Nat} (hq : W.drewN m = w') (h : IsS42 w0 W g f0) : IsS42 w0 w' g f0 := by subst hq; exact IsS42.drewN h m
theorem IsS42.apart {w0 W : World} {g : Nat} {f0 : List Int} {α : Type} {d : Kd α} {e : Nat} {base : Nat} {ok : Nat → Prop} {v : Value} {xs : List α} (h : IsS42 w0 W g f0) (ho : d.R e W base ok v xs) (ht : ∀ q, q ∈ e :: d.E → q ≠ 42) : d.R e W base (fun k => ok k ∧ k ≠ g) v xs := by
  obtain ⟨A0, c0, hb, hg, hr0, hl0⟩ := h
  exact Kd.R_types ho hb ht
theorem IsS42.own_ne {w0 W : World} {g : Nat} {f0 : List Int} {α : Type} {d : Kd α} {e : Nat} {base : Nat} {ok : Nat → Prop} {v : Value} {xs : List α} (h : IsS42 w0 W g f0) (ho : d.R e W base ok v xs) (ht : e ≠ 42) : some g ≠ v.ownBlock := by
  obtain ⟨A0, c0, hb, hg, hr0, hl0⟩ := h
  exact Kd.R_ne ho hb ht
theorem IsS42.apartQ {w0 W : World} {g : Nat} {f0 : List Int} {α : Type} {d : Kd α} {e : Nat} {base : Nat} {ok : Nat → Prop} {v : Value} {xs : List α} (h : IsS42 w0 W g f0) (ho : d.Q e W base ok v xs) (ht : ∀ q, q ∈ e :: d.E → q ≠ 42) : d.Q e W base (fun k => ok k ∧ k ≠ g) v xs := by
  obtain ⟨A0, c0, hb, hg, hr0, hl0⟩ := h
  exact Kd.Q_types ho hb ht
theorem IsS42.own_neQ {w0 W : World} {g : Nat} {f0 : List Int} {α : Type} {d : Kd α} {e : Nat} {base : Nat} {ok : Nat → Prop} {v : Value} {xs : List α} (h : IsS42 w0 W g f0) (ho : d.Q e W base ok v xs) (ht : e ≠ 42) : some g ≠ v.ownBlock := by
  obtain ⟨A0, c0, hb, hg, hr0, hl0⟩ := h
  exact Kd.Q_ne ho hb ht
theorem IsS42.apartS {w0 W : World} {g : Nat} {f0 : List Int} {α : Type} {d : Kd α} {e : Nat} {base : Nat} {ok : Nat → Prop} {v : Value} {xs : List α} (h : IsS42 w0 W g f0) (ho : d.S e W base ok v xs) (ht : ∀ q, q ∈ e :: d.E → q ≠ 42) : d.S e W base (fun k => ok k ∧ k ≠ g) v xs := by
  obtain ⟨A0, c0, hb, hg, hr0, hl0⟩ := h
  exact Kd.S_types ho hb ht
theorem IsS42.own_neS {w0 W : World} {g : Nat} {f0 : List Int} {α : Type} {d : Kd α} {e : Nat} {base : Nat} {ok : Nat → Prop} {v : Value} {xs : List α} (h : IsS42 w0 W g f0) (ho : d.S e W base ok v xs) (ht : e ≠ 42) : some g ≠ v.ownBlock := by
  obtain ⟨A0, c0, hb, hg, hr0, hl0⟩ := h
  exact Kd.S_ne ho hb ht
theorem IsS42.lt {w0 W : World} {g : Nat} {f0 : List Int} (h : IsS42 w0 W g f0) : g < W.heap.size := by
  obtain ⟨A0, c0, hb, hg, hr0, hl0⟩ := h
  exact blk_lt hb
theorem IsS42.ge {w0 W : World} {g : Nat} {f0 : List Int} (h : IsS42 w0 W g f0) : w0.heap.size ≤ g := by
  obtain ⟨A0, c0, hb, hg, hr0, hl0⟩ := h
  exact hg
theorem IsS42.ne_blk {w0 W : World} {g : Nat} {f0 : List Int} {a : Nat} {cs : Array Value} {t : TypeId} {fr : Nat × Nat} (h : IsS42 w0 W g f0) (hb2 : W.heap[a]? = some (.cells cs t fr)) (ht : t ≠ 42) : g ≠ a := by
  obtain ⟨A0, c0, hb, hg, hr0, hl0⟩ := h
  rintro rfl
  rw [hb] at hb2
  injection hb2 with hb2
  injection hb2 with _ ht2
  exact ht ht2.symm
theorem IsS42.far {w0 W : World} {g : Nat} {f0 : List Int} {p : Addr} (h : IsS42 w0 W g f0) (hne : g ≠ p.block) (u : Value) : IsS42 w0 (W.setCell p u) g f0 := by
  obtain ⟨A0, c0, hb, hg, hr0, hl0⟩ := h
  exact ⟨A0, c0, blk_far hb hne u, hg, hr0, hl0⟩
theorem cellS42_0 {W : World} {g : Nat} {A0 : Option Addr} {c0 : Nat} {f0 : List Int} (h : W.heap[g]? = some (.cells #[.slice A0 f0.length c0] 42 (0, 0))) : W.cell? ⟨g, 0, none⟩ = some (.slice A0 f0.length c0) := (blk_cell h 0).trans rfl

/-! ### wrackmake_Stream_Next: function 12 -/
def wrackmake_Stream_Next.f (s0_0 : List Int) (a1 : Int) : Option (Int × List Int) := if (s0_0.length : Int) = 0 then (some (0, s0_0)) else (if a1 < 1 then (some (0, s0_0)) else ((wrackmake_Below.f (rd s0_0 0) a1).bind fun t101 => some (t101, s0_0.drop 1)))
set_option maxHeartbeats 8000000 in
set_option maxRecDepth 100000 in
theorem wrackmake_Stream_Next.calls (g : Nat) (s0_0 : List Int) (a1 : Int) (r1 : Int) (r2 : List Int) (w0 w : World) (hI : IsS42 w0 w g s0_0) (hB : Below w0.heap.size w0 w) (h : wrackmake_Stream_Next.f s0_0 a1 = some (r1, r2)) :
    Calls Tryd.prog 12 #[.pointer (some ⟨g, 0, none⟩), .int .i64 a1] w fun e w' => e = .returned (.int .i64 r1) ∧ IsS42 w0 w' g r2 ∧ Below w0.heap.size w0 w' ∧ KeepBut w w' g none := by
  have H : (if (s0_0.length : Int) = 0 then (some (0, s0_0)) else (if a1 < 1 then (some (0, s0_0)) else ((wrackmake_Below.f (rd s0_0 0) a1).bind fun t101 => some (t101, s0_0.drop 1)))) = some (r1, r2) := h
  clear h
  have HI := Aside0.mk hI
  have HBB := Aside0.mk hB
  obtain ⟨A0, c0, hb, hg, hr, hl⟩ := hI
  have HG := Aside0.mk hg
  have HR := Aside0.mk hr
  have HL := Aside0.mk hl
  clear hg hr hl
  have hc0 : w.cell? ⟨g, 0, none⟩ = some (.slice A0 s0_0.length c0) := (blk_cell hb 0).trans rfl
  have hf0 := blk_frozen hb 0
  have HBK := Aside0.mk hb
  clear hb hB
  by_cases c1 : (s0_0.length : Int) = 0
  · rw [if_pos c1] at H
    obtain ⟨rfl, rfl⟩ := Prod.mk.inj (Option.some.inj H)
    have c1b : ((s0_0.length : Int) == 0) = true := beq_iff_eq.mpr c1
    have c1n : (s0_0.length == 0) = true := by simp only [beq_iff_eq]; omega
    clear c1 H
    go_enter Tryd.func12, Tryd.ntmps12
    go_wp2
    go_ret
    exact ⟨rfl, HI.out, HBB.out, KeepBut.refl _ _ _⟩
  · rw [if_neg c1] at H
    have c1b : ((s0_0.length : Int) == 0) = false := beq_eq_false_iff_ne.mpr c1
    have c1n : (s0_0.length == 0) = false := by simp only [beq_eq_false_iff_ne]; omega
    have c1c : 0 < s0_0.length := by omega
    clear c1
    by_cases c2 : a1 < 1
    · rw [if_pos c2] at H
      obtain ⟨rfl, rfl⟩ := Prod.mk.inj (Option.some.inj H)
      have c2b : decide (a1 < 1) = true := decide_eq_true c2
      clear c2 H
      go_enter Tryd.func12, Tryd.ntmps12
      go_wp2
      go_ret
      exact ⟨rfl, HI.out, HBB.out, KeepBut.refl _ _ _⟩
    · rw [if_neg c2] at H
      have c2b : decide (a1 < 1) = false := decide_eq_false c2
      clear c2
      obtain ⟨t101, A4, H⟩ := Option.bind_eq_some_iff.mp H
      obtain ⟨rfl, rfl⟩ := Prod.mk.inj (Option.some.inj H)
      clear H
      have HA := Aside0.mk A4
      clear A4
      obtain ⟨ad, e0, hx⟩ := Kd.at_int HR.out 0 (by omega) (by omega)
      cases e0
      replace hx := (HBB.out.cell (World.block_lt_of_cell? w0 _ hx)).trans hx
      (try rw [show ((0 : Int)).toNat = 0 from rfl] at hx)
      (try rw [Addr.add_zero'] at hx)
      obtain ⟨i0, hi0, _, hsz, _⟩ := info_parts info3
      obtain ⟨A1, hcut, hA1, hC1⟩ := print_drop_of (P := Tryd.prog) (Value.int .i64) 0 22 3 .i64 Tryd.underlying22 hi0 hsz (some ad) c0 s0_0 1 (by omega) (by omega) HL.out
      have HA1 := Aside0.mk hA1
      have HC1 := Aside0.mk hC1
      have hll := Aside0.mk (show (s0_0.drop 1).length = s0_0.length - 1 from List.length_drop)
      clear hA1 hC1 hi0 hsz
      go_enter Tryd.func12, Tryd.ntmps12
      go_wp2_with (first | (go_at_call 7; (with_reducible refine (wrackmake_Below.calls (rd s0_0 0) a1 t101 _ HA.out).mono ?_); rintro e w' ⟨rfl, ⟨nd, rfl⟩⟩))
      go_ret
      refine ⟨rfl, ⟨A1, c0 - 1, ?_, HG.out, Kd.C_of_reads (h1 := fun _ => rfl) (HA1.out _ (Kd.reads_of_C HR.out)), HC1.out⟩, pw_below_drewN (below_set HBB.out HG.out) nd, keep_drewN (KeepBut.set_ (KeepBut.refl _ _ _) 0 _) nd⟩
      show ((w.setCell ⟨g, 0, none⟩ (.slice A1 (s0_0.length - 1) (c0 - 1))).drewN nd).heap[g]? = _
      rw [List.length_drop]
      refine blk_drewN ?_ _
      simpa using blk_set HBK.out 0 (.slice A1 (s0_0.length - 1) (c0 - 1))

/-! ### wrackmake_Drive: function 4 -/
mutual
def wrackmake_Drive.l0 : Nat → Int → Int → Int → List Int → List (S45) → Option (List Int × (List (S45)))
  | 0, _, _, _, _, _ => none
  | k + 1, x5, x15, x16, x103000, x104001 => if x16 < x15 then ((wrackmake_Stream_Next.f x103000 4).bind fun bt106 => (if bt106.1 > 0 then (wrackmake_Drive.l0 k x5 x15 (wrap64 (x16 + 1)) bt106.2 x104001) else ((wrackmake_Stream_Next.f bt106.2 3).bind fun bt108 => (if (wrap64 (1 + bt108.1)) = 2 then ((wrackmake_Stream_Next.f bt108.2 5).bind fun bt111 => (if x104001.length < 5864062014805 then (wrackmake_Drive.l0 k x5 x15 (wrap64 (x16 + 1)) bt111.2 (x104001 ++ [(⟨x16, wrap64 (1 + bt108.1), wrap64 (2 + bt111.1)⟩ : S45)])) else (none))) else (if (wrap64 (1 + bt108.1)) = 3 then ((wrackmake_Stream_Next.f bt108.2 9).bind fun bt116 => (if x104001.length < 5864062014805 then (wrackmake_Drive.l0 k x5 x15 (wrap64 (x16 + 1)) bt116.2 (x104001 ++ [(⟨x16, wrap64 (1 + bt108.1), wrap64 (2 + bt116.1)⟩ : S45)])) else (none))) else (if x104001.length < 5864062014805 then (wrackmake_Drive.l0 k x5 x15 (wrap64 (x16 + 1)) bt108.2 (x104001 ++ [(⟨x16, wrap64 (1 + bt108.1), 0⟩ : S45)])) else (none))))))) else (if 0 ≤ (wrap64 (x5 * 64)) then (if (wrap64 (x5 * 64) : Int).toNat ≤ 281474976710656 then ((some (List.replicate (wrap64 (x5 * 64) : Int).toNat 0 : List Int)).bind fun y124 => (wrackmake_Drive.l1 k (y124.length : Int) 0 x103000 y124 x104001)) else (none)) else (none))
def wrackmake_Drive.l1 : Nat → Int → Int → List Int → List Int → List (S45) → Option (List Int × (List (S45)))
  | 0, _, _, _, _, _ => none
  | k + 1, x54, x55, x103000, x104000, x104001 => if x55 < x54 then (if (x103000.length : Int) > 0 then ((wrackmake_Stream_Next.f x103000 256).bind fun bt127 => (if 0 ≤ x55 then (if x55 < (x104000.length : Int) then (wrackmake_Drive.l1 k x54 (wrap64 (x55 + 1)) bt127.2 (x104000.set (x55 : Int).toNat ((bt127.1) % 256)) x104001) else (none)) else (none))) else (if 0 ≤ x55 then (if x55 < (x104000.length : Int) then (wrackmake_Drive.l1 k x54 (wrap64 (x55 + 1)) x103000 (x104000.set (x55 : Int).toNat ((wrap64 ((wrap64 (7 * x55)) + (wrap64 (Int.tdiv x55 64)))) % 256)) x104001) else (none)) else (none))) else (some (x104000, x104001))
end
def wrackmake_Drive.f (k : Nat) (l0 : List Int) : Option (List Int × (List (S45))) := (wrackmake_Stream_Next.f l0 12).bind fun bt104 => (wrackmake_Drive.l0 k (wrap64 (1 + bt104.1)) (wrap64 (1 + bt104.1)) 0 bt104.2 ([] : List (S45)))
theorem wrackmake_Drive.mono_l : ∀ k, (∀ y0 y1 y2 y3 y4, LeO (wrackmake_Drive.l0 k y0 y1 y2 y3 y4) (wrackmake_Drive.l0 (k + 1) y0 y1 y2 y3 y4)) ∧ (∀ y0 y1 y2 y3 y4, LeO (wrackmake_Drive.l1 k y0 y1 y2 y3 y4) (wrackmake_Drive.l1 (k + 1) y0 y1 y2 y3 y4))
  | 0 => ⟨fun _ _ _ _ _ r h => by simp [wrackmake_Drive.l0] at h, fun _ _ _ _ _ r h => by simp [wrackmake_Drive.l1] at h⟩
  | k + 1 => by
    obtain ⟨ih0, ih1⟩ := wrackmake_Drive.mono_l k
    refine ⟨?_, ?_⟩
    · intro y0 y1 y2 y3 y4
      unfold wrackmake_Drive.l0
      repeat' first
      | (with_reducible exact ih0 _ _ _ _ _)
      | (with_reducible exact ih1 _ _ _ _ _)
      | (with_reducible exact LeO.refl _)
      | (with_reducible exact LeO.none _)
      | (with_reducible refine LeO.ite ?_ ?_)
      | (with_reducible refine LeO.bind ?_ (fun _ => ?_))
      | exact ih0 _ _ _ _ _
      | exact ih1 _ _ _ _ _
      | exact LeO.none _
      | refine LeO.ite ?_ ?_
      | refine LeO.bind ?_ (fun _ => ?_)
    · intro y0 y1 y2 y3 y4
      unfold wrackmake_Drive.l1
      repeat' first
      | (with_reducible exact ih0 _ _ _ _ _)
      | (with_reducible exact ih1 _ _ _ _ _)
      | (with_reducible exact LeO.refl _)
      | (with_reducible exact LeO.none _)
      | (with_reducible refine LeO.ite ?_ ?_)
      | (with_reducible refine LeO.bind ?_ (fun _ => ?_))
      | exact ih0 _ _ _ _ _
      | exact ih1 _ _ _ _ _
      | exact LeO.none _
      | refine LeO.ite ?_ ?_
      | refine LeO.bind ?_ (fun _ => ?_)
theorem wrackmake_Drive.mono : ∀ a0 k, LeO (wrackmake_Drive.f k a0) (wrackmake_Drive.f (k + 1) a0) := by
  intro a0 k
  obtain ⟨ih0, ih1⟩ := wrackmake_Drive.mono_l k
  unfold wrackmake_Drive.f
  repeat' first
      | (with_reducible exact ih0 _ _ _ _ _)
      | (with_reducible exact ih1 _ _ _ _ _)
      | (with_reducible exact LeO.refl _)
      | (with_reducible exact LeO.none _)
      | (with_reducible refine LeO.ite ?_ ?_)
      | (with_reducible refine LeO.bind ?_ (fun _ => ?_))
      | exact ih0 _ _ _ _ _
      | exact ih1 _ _ _ _ _
      | exact LeO.none _
      | refine LeO.ite ?_ ?_
      | refine LeO.bind ?_ (fun _ => ?_)
def wrackmake_Drive.T21 : Bool × List (List Nat × List Nat) := (true, [([], []), ([0], [0]), ([], []), ([], []), ([3], [3]), ([4], [4]), ([1, 2, 0, 1, 2, 3, 4, 5], [1, 2]), ([6, 5, 4, 0, 1, 2, 3, 4, 5], [5, 6])])
def wrackmake_Drive.B21 : List Nat := [0, 1, 0, 0, 8, 24, 63, 127]
theorem wrackmake_Drive.tab21 : rtab .any (opsOf Tryd.f4 21) = wrackmake_Drive.T21 := by kernel_rfl
theorem wrackmake_Drive.bits21 : waitsOk wrackmake_Drive.T21.2 wrackmake_Drive.B21 = true := by kernel_rfl
set_option maxHeartbeats 8000000 in
set_option maxRecDepth 100000 in
theorem wrackmake_Drive.calls (k : Nat) (A0 : Option Addr) (c0 : Nat) (l0 : List Int) (r1 : List Int) (r2 : List (S45)) (w : World) (hr0 : Kd.C (Kd.int .i64) w A0 l0.length l0) (hc0 : l0.length ≤ c0) (h : wrackmake_Drive.f k l0 = some (r1, r2)) :
    Calls Tryd.prog 4 #[.slice A0 l0.length c0] w fun e w' => ∃ v0_ v1_ : Value, e = .returned (.agg #[v0_, v1_]) ∧ Kd.R (Kd.int .u8) 5 w' w.heap.size (fun _ => True) v0_ r1 ∧ Kd.R k45 45 w' w.heap.size (fun _ => True) v1_ r2 ∧ Below w.heap.size w w' := by
  have hu26 := Tryd.underlying26
  have hu42 := Tryd.underlying42
  have hu45 := Tryd.underlying45
  have HR0 := Aside0.mk hr0
  have HC0 := Aside0.mk hc0
  clear hr0 hc0
  have HB := Aside0.mk (Below.refl w.heap.size w)
  have H : ((wrackmake_Stream_Next.f l0 12).bind fun bt104 => (wrackmake_Drive.l0 k (wrap64 (1 + bt104.1)) (wrap64 (1 + bt104.1)) 0 bt104.2 ([] : List (S45)))) = some (r1, r2) := h
  clear h
  replace H := Option.bind_eq_some_iff.mp H
  obtain ⟨⟨t104, t105⟩, A20, H⟩ := H
  replace H : (wrackmake_Drive.l0 k (wrap64 (1 + t104)) (wrap64 (1 + t104)) 0 t105 ([] : List (S45))) = some (r1, r2) := H
  have A2 := Aside0.mk A20
  clear A20
  have H' := Aside0.mk H
  clear H
  go_enter Tryd.func4, Tryd.ntmps4
  go_wp2_with (first | ((with_reducible refine gate_dst (N := 2) rfl ?_); refine box_event ?hg (N := 2) ?hd (cs := #[.slice none 0 0, .slice none 0 0]) (t := 26) ?hr ?_; (case hd => rfl); (case hg => rfl); (case hr => first | (go_simp; done) | (go_simp; rfl)); intro gb101 hg w3 hbox hb; have n0_ := Aside0.mk (below_step (by repeat (first | (with_reducible first | exact HB.out | apply below_alloc | apply pw_below_drewN | apply below_drew1) | exact HB.out)) hb); have n1_ := Aside0.mk (hbox); have n2_ := Aside0.mk ((by rw [hg]; exact (below_size (by repeat (first | (with_reducible first | exact HB.out | apply below_alloc | apply pw_below_drewN | apply below_drew1) | exact HB.out))) : w.heap.size ≤ gb101)); have n3_ := Aside0.mk ((by rw [hg]; exact (below_size (by repeat (first | (with_reducible first | exact HB.out | apply below_alloc | apply pw_below_drewN | apply below_drew1) | exact HB.out))) : w.heap.size ≤ gb101)); clear HB; have HB := n0_; have BK101 := n1_; have GW101 := n2_; have GE101 := n3_; clear n0_ n1_ n2_ n3_; clear hb hbox hg) | ((with_reducible refine gate_dst (N := 11) rfl ?_); refine box_event ?hg (N := 11) ?hd (cs := #[.slice A0 l0.length c0]) (t := 42) ?hr ?_; (case hd => rfl); (case hg => rfl); (case hr => first | (go_simp; done) | (go_simp; rfl)); intro g102 hg w4 hbox hb; have n0_ := Aside0.mk (blk_below (g := gb101) (o := .cells #[.slice none 0 0, .slice none 0 0] 26 (0, 0)) (by (with_reducible repeat (first | refine blk_drewN ?_ _ | refine blk_drew ?_ | refine blk_alloc ?_ _)); exact BK101.out) hb); have n1_ := Aside0.mk (below_step (by repeat (first | (with_reducible first | exact HB.out | apply below_alloc | apply pw_below_drewN | apply below_drew1 | refine below_set ?_ GE101.out) | exact HB.out)) hb); have n2_ := Aside0.mk ((show IsS42 w w4 g102 l0 from ⟨_, _, hbox, (by rw [hg]; exact (below_size (by repeat (first | (with_reducible first | exact HB.out | apply below_alloc | apply pw_below_drewN | apply below_drew1 | refine below_set ?_ GE101.out) | exact HB.out))) : w.heap.size ≤ g102), HR0.out, HC0.out⟩)); have n3_ := Aside0.mk ((by rw [hg]; exact Nat.ne_of_lt (blk_lt (g := gb101) (o := .cells #[.slice none 0 0, .slice none 0 0] 26 (0, 0)) (by (with_reducible repeat (first | refine blk_drewN ?_ _ | refine blk_drew ?_ | refine blk_alloc ?_ _)); exact BK101.out)) : gb101 ≠ g102)); have n4_ := Aside0.mk ((by rw [hg]; exact Nat.ne_of_gt (blk_lt (g := gb101) (o := .cells #[.slice none 0 0, .slice none 0 0] 26 (0, 0)) (by (with_reducible repeat (first | refine blk_drewN ?_ _ | refine blk_drew ?_ | refine blk_alloc ?_ _)); exact BK101.out)) : g102 ≠ gb101)); clear BK101; clear HB; have BK101 := n0_; have HB := n1_; have HI102 := n2_; have NB101_102 := n3_; have NB102_101 := n4_; clear n0_ n1_ n2_ n3_ n4_; clear hb hbox hg) | ((with_reducible refine gate_dst (N := 4) rfl ?_); refine box_event ?hg (N := 4) ?hd (cs := #[.slice none 0 0, .slice none 0 0]) (t := 26) ?hr ?_; (case hd => rfl); (case hg => rfl); (case hr => first | (go_simp; done) | (go_simp; rfl)); intro gb103 hg w5 hbox hb; have n0_ := Aside0.mk (blk_below (g := gb101) (o := .cells #[.slice none 0 0, .slice none 0 0] 26 (0, 0)) (by (with_reducible repeat (first | refine blk_drewN ?_ _ | refine blk_drew ?_ | refine blk_alloc ?_ _)); exact BK101.out) hb); have n1_ := Aside0.mk (IsS42.below (by repeat (first | (with_reducible first | exact HI102.out | apply IsS42.alloc | apply IsS42.drewN | apply IsS42.drew | apply IsS42.set_0 | refine IsS42.far ?_ NB102_101.out _) | exact HI102.out)) hb); have n2_ := Aside0.mk (below_step (by repeat (first | (with_reducible first | exact HB.out | apply below_alloc | apply pw_below_drewN | apply below_drew1 | refine below_set ?_ (IsS42.ge HI102.out) | refine below_set ?_ GE101.out) | exact HB.out)) hb); have n3_ := Aside0.mk (hbox); have n4_ := Aside0.mk ((by rw [hg]; exact (below_size (by repeat (first | (with_reducible first | exact HB.out | apply below_alloc | apply pw_below_drewN | apply below_drew1 | refine below_set ?_ (IsS42.ge HI102.out) | refine below_set ?_ GE101.out) | exact HB.out))) : w.heap.size ≤ gb103)); have n5_ := Aside0.mk ((by rw [hg]; exact (below_size (by repeat (first | (with_reducible first | exact HB.out | apply below_alloc | apply pw_below_drewN | apply below_drew1 | refine below_set ?_ (IsS42.ge HI102.out) | refine below_set ?_ GE101.out) | exact HB.out))) : w.heap.size ≤ gb103)); have n6_ := Aside0.mk ((by rw [hg]; exact Nat.ne_of_lt (blk_lt (g := gb101) (o := .cells #[.slice none 0 0, .slice none 0 0] 26 (0, 0)) (by (with_reducible repeat (first | refine blk_drewN ?_ _ | refine blk_drew ?_ | refine blk_alloc ?_ _)); exact BK101.out)) : gb101 ≠ gb103)); have n7_ := Aside0.mk ((by rw [hg]; exact Nat.ne_of_gt (blk_lt (g := gb101) (o := .cells #[.slice none 0 0, .slice none 0 0] 26 (0, 0)) (by (with_reducible repeat (first | refine blk_drewN ?_ _ | refine blk_drew ?_ | refine blk_alloc ?_ _)); exact BK101.out)) : gb103 ≠ gb101)); have n8_ := Aside0.mk ((by rw [hg]; exact Nat.ne_of_lt (IsS42.lt (show IsS42 w _ g102 l0 from by repeat (first | (with_reducible first | exact HI102.out | apply IsS42.alloc | apply IsS42.drewN | apply IsS42.drew | apply IsS42.set_0 | refine IsS42.far ?_ NB102_101.out _) | exact HI102.out))) : g102 ≠ gb103)); have n9_ := Aside0.mk ((by rw [hg]; exact Nat.ne_of_gt (IsS42.lt (show IsS42 w _ g102 l0 from by repeat (first | (with_reducible first | exact HI102.out | apply IsS42.alloc | apply IsS42.drewN | apply IsS42.drew | apply IsS42.set_0 | refine IsS42.far ?_ NB102_101.out _) | exact HI102.out))) : gb103 ≠ g102)); clear BK101; clear HI102; clear HB; have BK101 := n0_; have HI102 := n1_; have HB := n2_; have BK103 := n3_; have GW103 := n4_; have GE103 := n5_; have NB101_103 := n6_; have NB103_101 := n7_; have NB102_103 := n8_; have NB103_102 := n9_; clear n0_ n1_ n2_ n3_ n4_ n5_ n6_ n7_ n8_ n9_; clear hb hbox hg) | ((with_reducible refine gate_callee (f := 12) rfl ?_); refine goesL_ (some 13) rfl rfl Tryd.func12 (by kernel_rfl) rfl #[.pointer (some ⟨g102, 0, none⟩), .int .i64 12] rfl (by (try simp only [List.map_toArray, List.map_cons, List.map_nil]); first | done | rfl | (simp only [List.length_drop, List.length_take]; rfl)) ?_; (with_reducible refine (wrackmake_Stream_Next.calls g102 l0 12 t104 t105 w _ ?side1 ?side2 A2.out).mono ?_); (case side1 => repeat (first | (with_reducible first | exact HI102.out | apply IsS42.alloc | apply IsS42.drewN | apply IsS42.drew | apply IsS42.set_0 | refine IsS42.far ?_ NB102_101.out _ | refine IsS42.far ?_ NB102_103.out _) | exact HI102.out)); (case side2 => repeat (first | (with_reducible first | exact HB.out | apply below_alloc | apply pw_below_drewN | apply below_drew1 | refine below_set ?_ (IsS42.ge HI102.out) | refine below_set ?_ GE101.out | refine below_set ?_ GE103.out) | exact HB.out)); rintro e w6 ⟨rfl, hi, hb, hk⟩; refine ⟨_, rfl, ?_⟩; have n0_ := Aside0.mk (KeepBut.blk hk (g' := gb101) (o := .cells #[.slice none 0 0, .slice none 0 0] 26 (0, 0)) (by (with_reducible repeat (first | refine blk_drewN ?_ _ | refine blk_drew ?_ | refine blk_alloc ?_ _)); exact BK101.out) NB101_102.out (by simp)); have n1_ := Aside0.mk (KeepBut.blk hk (g' := gb103) (o := .cells #[.slice none 0 0, .slice none 0 0] 26 (0, 0)) (by (with_reducible repeat (first | refine blk_drewN ?_ _ | refine blk_drew ?_ | refine blk_alloc ?_ _)); exact BK103.out) NB103_102.out (by simp)); have n2_ := Aside0.mk (hb); have n3_ := Aside0.mk (hi); clear BK101; clear BK103; clear HB; clear HI102; have BK101 := n0_; have BK103 := n1_; have HB := n2_; have HI102 := n3_; clear n0_ n1_ n2_ n3_; (try clear hb); (try clear hb2); (try clear hk); (try clear hi)))
  go_loopg [16] k (fun kq v16 w' => ∃ (x16_1 : Int) (x103000_1 : List Int) (x104001_1 : List (S45)) (u104001 : Value), v16 = .int .i64 x16_1 ∧ Aside0 (wrackmake_Drive.l0 kq (wrap64 (1 + t104)) (wrap64 (1 + t104)) x16_1 x103000_1 x104001_1 = some (r1, r2)) ∧ Aside0 (kq ≤ k) ∧ Aside0 (Kd.R k45 45 w' w.heap.size (fun _ => True) u104001 x104001_1) ∧ Aside0 (w'.heap[gb101]? = some (.cells #[(.slice none 0 0), (.slice none 0 0)] 26 (0, 0))) ∧ Aside0 (w'.heap[gb103]? = some (.cells #[(.slice none 0 0), u104001] 26 (0, 0))) ∧ Aside0 (IsS42 w w' g102 x103000_1) ∧ Aside0 (Below w.heap.size w w'))
  case atStart => exact ⟨(0), (t105), (([] : List (S45))), (.slice none 0 0), (by first | rfl | (simp; done) | (simp [*]; done)), H', ⟨Nat.le_refl _⟩, ⟨by first | exact Kd.R_nil _ _ _ _ _ | exact Kd.N_nil _ _ _ _ _ | exact Kd.V_nil _ _ _ _ _ | exact Kd.Q_nil _ _ _ _ _ | exact Kd.S_nil _ _ _ _ _⟩, ⟨by (with_reducible repeat (first | refine blk_drewN ?_ _ | refine blk_drew ?_ | refine blk_alloc ?_ _)); exact BK101.out⟩, ⟨by (with_reducible repeat (first | refine blk_drewN ?_ _ | refine blk_drew ?_ | refine blk_alloc ?_ _)); exact BK103.out⟩, ⟨by repeat (first | (with_reducible first | exact HI102.out | apply IsS42.alloc | apply IsS42.drewN | apply IsS42.drew | apply IsS42.set_0 | refine IsS42.far ?_ NB102_101.out _ | refine IsS42.far ?_ NB102_103.out _) | exact HI102.out)⟩, ⟨by repeat (first | (with_reducible first | exact HB.out | apply below_alloc | apply pw_below_drewN | apply below_drew1 | refine below_set ?_ (IsS42.ge HI102.out) | refine below_set ?_ GE101.out | refine below_set ?_ GE103.out) | exact HB.out)⟩⟩
  case round =>
    clear H'
    try clear c1
    try clear p2
    try clear c4
    try clear p6
    obtain ⟨x16_1, x103000_1, x104001_1, u104001, rfl, HA, HK1, HO_104001, BK101, BK103, HI102, HB⟩ := hrel
    cases gk with
    | zero => exact absurd HA.out (by simp [wrackmake_Drive.l0])
    | succ k1 =>
      have H := HA.out
      clear HA
      simp only [wrackmake_Drive.l0] at H
      by_cases c7 : x16_1 < (wrap64 (1 + t104))
      · rw [if_pos c7] at H
        have c7b0 : decide (x16_1 < (wrap64 (1 + t104))) = true := decide_eq_true c7
        clear c7
        replace H := Option.bind_eq_some_iff.mp H
        obtain ⟨⟨t106, t107⟩, A80, H⟩ := H
        replace H : (if t106 > 0 then (wrackmake_Drive.l0 k1 (wrap64 (1 + t104)) (wrap64 (1 + t104)) (wrap64 (x16_1 + 1)) t107 x104001_1) else ((wrackmake_Stream_Next.f t107 3).bind fun bt108 => (if (wrap64 (1 + bt108.1)) = 2 then ((wrackmake_Stream_Next.f bt108.2 5).bind fun bt111 => (if x104001_1.length < 5864062014805 then (wrackmake_Drive.l0 k1 (wrap64 (1 + t104)) (wrap64 (1 + t104)) (wrap64 (x16_1 + 1)) bt111.2 (x104001_1 ++ [(⟨x16_1, wrap64 (1 + bt108.1), wrap64 (2 + bt111.1)⟩ : S45)])) else (none))) else (if (wrap64 (1 + bt108.1)) = 3 then ((wrackmake_Stream_Next.f bt108.2 9).bind fun bt116 => (if x104001_1.length < 5864062014805 then (wrackmake_Drive.l0 k1 (wrap64 (1 + t104)) (wrap64 (1 + t104)) (wrap64 (x16_1 + 1)) bt116.2 (x104001_1 ++ [(⟨x16_1, wrap64 (1 + bt108.1), wrap64 (2 + bt116.1)⟩ : S45)])) else (none))) else (if x104001_1.length < 5864062014805 then (wrackmake_Drive.l0 k1 (wrap64 (1 + t104)) (wrap64 (1 + t104)) (wrap64 (x16_1 + 1)) bt108.2 (x104001_1 ++ [(⟨x16_1, wrap64 (1 + bt108.1), 0⟩ : S45)])) else (none)))))) = some (r1, r2) := H
        have A8 := Aside0.mk A80
        clear A80
        by_cases c9 : t106 > 0
        · rw [if_pos c9] at H
          have c9b0 : decide (0 < t106) = true := decide_eq_true c9
          clear c9
          have H' := Aside0.mk H
          clear H
          go_wp2_with (first | ((with_reducible refine gate_callee (f := 12) rfl ?_); refine goesL_ (some 20) rfl rfl Tryd.func12 (by kernel_rfl) rfl #[.pointer (some ⟨g102, 0, none⟩), .int .i64 4] rfl (by (try simp only [List.map_toArray, List.map_cons, List.map_nil]); first | done | rfl | (simp only [List.length_drop, List.length_take]; rfl)) ?_; (with_reducible refine (wrackmake_Stream_Next.calls g102 x103000_1 4 t106 t107 w _ ?side1 ?side2 A8.out).mono ?_); (case side1 => repeat (first | (with_reducible first | exact HI102.out | apply IsS42.alloc | apply IsS42.drewN | apply IsS42.drew | apply IsS42.set_0 | refine IsS42.far ?_ NB102_101.out _ | refine IsS42.far ?_ NB102_103.out _) | exact HI102.out)); (case side2 => repeat (first | (with_reducible first | exact HB.out | apply below_alloc | apply pw_below_drewN | apply below_drew1 | refine below_set ?_ (IsS42.ge HI102.out) | refine below_set ?_ GE101.out | refine below_set ?_ GE103.out) | exact HB.out)); rintro e w10 ⟨rfl, hi, hb, hk⟩; refine ⟨_, rfl, ?_⟩; have n0_ := Aside0.mk (Kd.R_mono (Kd.R_keep (IsS42.apart (show IsS42 w _ g102 x103000_1 from by repeat (first | (with_reducible first | exact HI102.out | apply IsS42.alloc | apply IsS42.drewN | apply IsS42.drew | apply IsS42.set_0 | refine IsS42.far ?_ NB102_101.out _ | refine IsS42.far ?_ NB102_103.out _) | exact HI102.out)) (by (with_reducible repeat (first | apply Kd.R_alloc | apply Kd.R_drewN | apply Kd.R_drew)); exact HO_104001.out) (by decide)) hk (fun _ h => h.2)) (fun _ h => h.1)); have n1_ := Aside0.mk (KeepBut.blk hk (g' := gb101) (o := .cells #[.slice none 0 0, .slice none 0 0] 26 (0, 0)) (by (with_reducible repeat (first | refine blk_drewN ?_ _ | refine blk_drew ?_ | refine blk_alloc ?_ _)); exact BK101.out) NB101_102.out (by simp)); have n2_ := Aside0.mk (KeepBut.blk hk (g' := gb103) (o := .cells #[.slice none 0 0, u104001] 26 (0, 0)) (by (with_reducible repeat (first | refine blk_drewN ?_ _ | refine blk_drew ?_ | refine blk_alloc ?_ _)); exact BK103.out) NB103_102.out (by simp)); have n3_ := Aside0.mk (hb); have n4_ := Aside0.mk (hi); clear HO_104001; clear BK101; clear BK103; clear HB; clear HI102; have HO_104001 := n0_; have BK101 := n1_; have BK103 := n2_; have HB := n3_; have HI102 := n4_; clear n0_ n1_ n2_ n3_ n4_; (try clear hb); (try clear hb2); (try clear hk); (try clear hi)))
          go_roundg k1
          case measure => have := HK1.out; omega
          case rel => exact ⟨(wrap64 (x16_1 + 1)), (t107), (x104001_1), (u104001), (by first | rfl | (simp; done) | (simp [*]; done)), H', ⟨by have := HK1.out; omega⟩, ⟨by (with_reducible repeat (first | apply Kd.R_alloc | apply Kd.R_drewN | apply Kd.R_drew)); exact HO_104001.out⟩, ⟨by (with_reducible repeat (first | refine blk_drewN ?_ _ | refine blk_drew ?_ | refine blk_alloc ?_ _)); exact BK101.out⟩, ⟨by (with_reducible repeat (first | refine blk_drewN ?_ _ | refine blk_drew ?_ | refine blk_alloc ?_ _)); exact BK103.out⟩, ⟨by repeat (first | (with_reducible first | exact HI102.out | apply IsS42.alloc | apply IsS42.drewN | apply IsS42.drew | apply IsS42.set_0 | refine IsS42.far ?_ NB102_101.out _ | refine IsS42.far ?_ NB102_103.out _) | exact HI102.out)⟩, ⟨by repeat (first | (with_reducible first | exact HB.out | apply below_alloc | apply pw_below_drewN | apply below_drew1 | refine below_set ?_ (IsS42.ge HI102.out) | refine below_set ?_ GE101.out | refine below_set ?_ GE103.out) | exact HB.out)⟩⟩
        · rw [if_neg c9] at H
          have c9b0 : decide (0 < t106) = false := decide_eq_false c9
          clear c9
          replace H := Option.bind_eq_some_iff.mp H
          obtain ⟨⟨t108, t109⟩, A110, H⟩ := H
          replace H : (if (wrap64 (1 + t108)) = 2 then ((wrackmake_Stream_Next.f t109 5).bind fun bt111 => (if x104001_1.length < 5864062014805 then (wrackmake_Drive.l0 k1 (wrap64 (1 + t104)) (wrap64 (1 + t104)) (wrap64 (x16_1 + 1)) bt111.2 (x104001_1 ++ [(⟨x16_1, wrap64 (1 + t108), wrap64 (2 + bt111.1)⟩ : S45)])) else (none))) else (if (wrap64 (1 + t108)) = 3 then ((wrackmake_Stream_Next.f t109 9).bind fun bt116 => (if x104001_1.length < 5864062014805 then (wrackmake_Drive.l0 k1 (wrap64 (1 + t104)) (wrap64 (1 + t104)) (wrap64 (x16_1 + 1)) bt116.2 (x104001_1 ++ [(⟨x16_1, wrap64 (1 + t108), wrap64 (2 + bt116.1)⟩ : S45)])) else (none))) else (if x104001_1.length < 5864062014805 then (wrackmake_Drive.l0 k1 (wrap64 (1 + t104)) (wrap64 (1 + t104)) (wrap64 (x16_1 + 1)) t109 (x104001_1 ++ [(⟨x16_1, wrap64 (1 + t108), 0⟩ : S45)])) else (none)))) = some (r1, r2) := H
          have A11 := Aside0.mk A110
          clear A110
          by_cases c12 : (wrap64 (1 + t108)) = 2
          · rw [if_pos c12] at H
            have c12b0 : ((wrap64 (1 + t108)) == 2) = true := beq_iff_eq.mpr c12
            have c12b1 : ((wrap64 (1 + t108)) != 2) = false := bne_eq_false_iff_eq.mpr c12
            clear c12
            replace H := Option.bind_eq_some_iff.mp H
            obtain ⟨⟨t111, t112⟩, A130, H⟩ := H
            replace H : (if x104001_1.length < 5864062014805 then (wrackmake_Drive.l0 k1 (wrap64 (1 + t104)) (wrap64 (1 + t104)) (wrap64 (x16_1 + 1)) t112 (x104001_1 ++ [(⟨x16_1, wrap64 (1 + t108), wrap64 (2 + t111)⟩ : S45)])) else (none)) = some (r1, r2) := H
            have A13 := Aside0.mk A130
            clear A130
            by_cases c14 : x104001_1.length < 5864062014805
            · rw [if_pos c14] at H
              have LMc14 := Aside0.mk c14
              clear c14
              obtain ⟨y113, hy113⟩ : ∃ y_ : List (S45), y_ = (x104001_1 ++ [(⟨x16_1, wrap64 (1 + t108), wrap64 (2 + t111)⟩ : S45)]) := ⟨_, rfl⟩
              replace H : (wrackmake_Drive.l0 k1 (wrap64 (1 + t104)) (wrap64 (1 + t104)) (wrap64 (x16_1 + 1)) t112 y113) = some (r1, r2) := by first | (rw [hy113]; with_reducible exact H) | (have H2_ := (Option.bind_some _ _).symm.trans H; rw [hy113]; with_reducible exact H2_) | (have H2_ := (Option.bind_some _ _).symm.trans H; with_reducible exact H2_) | with_reducible exact H | (rw [hy113]; exact H) | exact H
              have Ny113 := Aside0.mk hy113
              clear hy113
              have H' := Aside0.mk H
              clear H
              go_wp2_with (first | ((with_reducible refine gate_callee (f := 12) rfl ?_); refine goesL_ (some 20) rfl rfl Tryd.func12 (by kernel_rfl) rfl #[.pointer (some ⟨g102, 0, none⟩), .int .i64 4] rfl (by (try simp only [List.map_toArray, List.map_cons, List.map_nil]); first | done | rfl | (simp only [List.length_drop, List.length_take]; rfl)) ?_; (with_reducible refine (wrackmake_Stream_Next.calls g102 x103000_1 4 t106 t107 w _ ?side1 ?side2 A8.out).mono ?_); (case side1 => repeat (first | (with_reducible first | exact HI102.out | apply IsS42.alloc | apply IsS42.drewN | apply IsS42.drew | apply IsS42.set_0 | refine IsS42.far ?_ NB102_101.out _ | refine IsS42.far ?_ NB102_103.out _) | exact HI102.out)); (case side2 => repeat (first | (with_reducible first | exact HB.out | apply below_alloc | apply pw_below_drewN | apply below_drew1 | refine below_set ?_ (IsS42.ge HI102.out) | refine below_set ?_ GE101.out | refine below_set ?_ GE103.out) | exact HB.out)); rintro e w15 ⟨rfl, hi, hb, hk⟩; refine ⟨_, rfl, ?_⟩; have n0_ := Aside0.mk (Kd.R_mono (Kd.R_keep (IsS42.apart (show IsS42 w _ g102 x103000_1 from by repeat (first | (with_reducible first | exact HI102.out | apply IsS42.alloc | apply IsS42.drewN | apply IsS42.drew | apply IsS42.set_0 | refine IsS42.far ?_ NB102_101.out _ | refine IsS42.far ?_ NB102_103.out _) | exact HI102.out)) (by (with_reducible repeat (first | apply Kd.R_alloc | apply Kd.R_drewN | apply Kd.R_drew)); exact HO_104001.out) (by decide)) hk (fun _ h => h.2)) (fun _ h => h.1)); have n1_ := Aside0.mk (KeepBut.blk hk (g' := gb101) (o := .cells #[.slice none 0 0, .slice none 0 0] 26 (0, 0)) (by (with_reducible repeat (first | refine blk_drewN ?_ _ | refine blk_drew ?_ | refine blk_alloc ?_ _)); exact BK101.out) NB101_102.out (by simp)); have n2_ := Aside0.mk (KeepBut.blk hk (g' := gb103) (o := .cells #[.slice none 0 0, u104001] 26 (0, 0)) (by (with_reducible repeat (first | refine blk_drewN ?_ _ | refine blk_drew ?_ | refine blk_alloc ?_ _)); exact BK103.out) NB103_102.out (by simp)); have n3_ := Aside0.mk (hb); have n4_ := Aside0.mk (hi); clear HO_104001; clear BK101; clear BK103; clear HB; clear HI102; have HO_104001 := n0_; have BK101 := n1_; have BK103 := n2_; have HB := n3_; have HI102 := n4_; clear n0_ n1_ n2_ n3_ n4_; (try clear hb); (try clear hb2); (try clear hk); (try clear hi)) | ((with_reducible refine gate_callee (f := 12) rfl ?_); refine goesL_ (some 24) rfl rfl Tryd.func12 (by kernel_rfl) rfl #[.pointer (some ⟨g102, 0, none⟩), .int .i64 3] rfl (by (try simp only [List.map_toArray, List.map_cons, List.map_nil]); first | done | rfl | (simp only [List.length_drop, List.length_take]; rfl)) ?_; (with_reducible refine (wrackmake_Stream_Next.calls g102 t107 3 t108 t109 w _ ?side1 ?side2 A11.out).mono ?_); (case side1 => repeat (first | (with_reducible first | exact HI102.out | apply IsS42.alloc | apply IsS42.drewN | apply IsS42.drew | apply IsS42.set_0 | refine IsS42.far ?_ NB102_101.out _ | refine IsS42.far ?_ NB102_103.out _) | exact HI102.out)); (case side2 => repeat (first | (with_reducible first | exact HB.out | apply below_alloc | apply pw_below_drewN | apply below_drew1 | refine below_set ?_ (IsS42.ge HI102.out) | refine below_set ?_ GE101.out | refine below_set ?_ GE103.out) | exact HB.out)); rintro e w16 ⟨rfl, hi, hb, hk⟩; refine ⟨_, rfl, ?_⟩; have n0_ := Aside0.mk (Kd.R_mono (Kd.R_keep (IsS42.apart (show IsS42 w _ g102 t107 from by repeat (first | (with_reducible first | exact HI102.out | apply IsS42.alloc | apply IsS42.drewN | apply IsS42.drew | apply IsS42.set_0 | refine IsS42.far ?_ NB102_101.out _ | refine IsS42.far ?_ NB102_103.out _) | exact HI102.out)) (by (with_reducible repeat (first | apply Kd.R_alloc | apply Kd.R_drewN | apply Kd.R_drew)); exact HO_104001.out) (by decide)) hk (fun _ h => h.2)) (fun _ h => h.1)); have n1_ := Aside0.mk (KeepBut.blk hk (g' := gb101) (o := .cells #[.slice none 0 0, .slice none 0 0] 26 (0, 0)) (by (with_reducible repeat (first | refine blk_drewN ?_ _ | refine blk_drew ?_ | refine blk_alloc ?_ _)); exact BK101.out) NB101_102.out (by simp)); have n2_ := Aside0.mk (KeepBut.blk hk (g' := gb103) (o := .cells #[.slice none 0 0, u104001] 26 (0, 0)) (by (with_reducible repeat (first | refine blk_drewN ?_ _ | refine blk_drew ?_ | refine blk_alloc ?_ _)); exact BK103.out) NB103_102.out (by simp)); have n3_ := Aside0.mk (hb); have n4_ := Aside0.mk (hi); clear HO_104001; clear BK101; clear BK103; clear HB; clear HI102; have HO_104001 := n0_; have BK101 := n1_; have BK103 := n2_; have HB := n3_; have HI102 := n4_; clear n0_ n1_ n2_ n3_ n4_; (try clear hb); (try clear hb2); (try clear hk); (try clear hi)) | ((with_reducible refine gate_dst (N := 7) rfl ?_); refine box_event ?hg (N := 7) ?hd (cs := #[.int .i64 0, .int .i64 0, .int .i64 0]) (t := 45) ?hr ?_; (case hd => rfl); (case hg => rfl); (case hr => first | (go_simp; done) | (go_simp; rfl)); intro gb110 hg w17 hbox hb; have n0_ := Aside0.mk (Kd.R_below (Kd.R_elderB (by (with_reducible repeat (first | apply Kd.R_alloc | apply Kd.R_drewN | apply Kd.R_drew)); exact HO_104001.out) gb110 (Nat.le_of_eq hg.symm)) hb); have n1_ := Aside0.mk (blk_below (g := gb101) (o := .cells #[.slice none 0 0, .slice none 0 0] 26 (0, 0)) (by (with_reducible repeat (first | refine blk_drewN ?_ _ | refine blk_drew ?_ | refine blk_alloc ?_ _)); exact BK101.out) hb); have n2_ := Aside0.mk (blk_below (g := gb103) (o := .cells #[.slice none 0 0, u104001] 26 (0, 0)) (by (with_reducible repeat (first | refine blk_drewN ?_ _ | refine blk_drew ?_ | refine blk_alloc ?_ _)); exact BK103.out) hb); have n3_ := Aside0.mk (IsS42.below (by repeat (first | (with_reducible first | exact HI102.out | apply IsS42.alloc | apply IsS42.drewN | apply IsS42.drew | apply IsS42.set_0 | refine IsS42.far ?_ NB102_101.out _ | refine IsS42.far ?_ NB102_103.out _) | exact HI102.out)) hb); have n4_ := Aside0.mk (below_step (by repeat (first | (with_reducible first | exact HB.out | apply below_alloc | apply pw_below_drewN | apply below_drew1 | refine below_set ?_ (IsS42.ge HI102.out) | refine below_set ?_ GE101.out | refine below_set ?_ GE103.out) | exact HB.out)) hb); have n5_ := Aside0.mk (hbox); have n6_ := Aside0.mk ((by rw [hg]; exact (below_size (by repeat (first | (with_reducible first | exact HB.out | apply below_alloc | apply pw_below_drewN | apply below_drew1 | refine below_set ?_ (IsS42.ge HI102.out) | refine below_set ?_ GE101.out | refine below_set ?_ GE103.out) | exact HB.out))) : w.heap.size ≤ gb110)); have n7_ := Aside0.mk ((by rw [hg]; exact (below_size (by repeat (first | (with_reducible first | exact HB.out | apply below_alloc | apply pw_below_drewN | apply below_drew1 | refine below_set ?_ (IsS42.ge HI102.out) | refine below_set ?_ GE101.out | refine below_set ?_ GE103.out) | exact HB.out))) : w.heap.size ≤ gb110)); have n8_ := Aside0.mk ((by rw [hg]; exact Nat.ne_of_lt (blk_lt (g := gb101) (o := .cells #[.slice none 0 0, .slice none 0 0] 26 (0, 0)) (by (with_reducible repeat (first | refine blk_drewN ?_ _ | refine blk_drew ?_ | refine blk_alloc ?_ _)); exact BK101.out)) : gb101 ≠ gb110)); have n9_ := Aside0.mk ((by rw [hg]; exact Nat.ne_of_gt (blk_lt (g := gb101) (o := .cells #[.slice none 0 0, .slice none 0 0] 26 (0, 0)) (by (with_reducible repeat (first | refine blk_drewN ?_ _ | refine blk_drew ?_ | refine blk_alloc ?_ _)); exact BK101.out)) : gb110 ≠ gb101)); have n10_ := Aside0.mk ((by rw [hg]; exact Nat.ne_of_lt (blk_lt (g := gb103) (o := .cells #[.slice none 0 0, u104001] 26 (0, 0)) (by (with_reducible repeat (first | refine blk_drewN ?_ _ | refine blk_drew ?_ | refine blk_alloc ?_ _)); exact BK103.out)) : gb103 ≠ gb110)); have n11_ := Aside0.mk ((by rw [hg]; exact Nat.ne_of_gt (blk_lt (g := gb103) (o := .cells #[.slice none 0 0, u104001] 26 (0, 0)) (by (with_reducible repeat (first | refine blk_drewN ?_ _ | refine blk_drew ?_ | refine blk_alloc ?_ _)); exact BK103.out)) : gb110 ≠ gb103)); have n12_ := Aside0.mk ((by rw [hg]; exact Nat.ne_of_lt (IsS42.lt (show IsS42 w _ g102 t109 from by repeat (first | (with_reducible first | exact HI102.out | apply IsS42.alloc | apply IsS42.drewN | apply IsS42.drew | apply IsS42.set_0 | refine IsS42.far ?_ NB102_101.out _ | refine IsS42.far ?_ NB102_103.out _) | exact HI102.out))) : g102 ≠ gb110)); have n13_ := Aside0.mk ((by rw [hg]; exact Nat.ne_of_gt (IsS42.lt (show IsS42 w _ g102 t109 from by repeat (first | (with_reducible first | exact HI102.out | apply IsS42.alloc | apply IsS42.drewN | apply IsS42.drew | apply IsS42.set_0 | refine IsS42.far ?_ NB102_101.out _ | refine IsS42.far ?_ NB102_103.out _) | exact HI102.out))) : gb110 ≠ g102)); clear HO_104001; clear BK101; clear BK103; clear HI102; clear HB; have HO_104001 := n0_; have BK101 := n1_; have BK103 := n2_; have HI102 := n3_; have HB := n4_; have BK110 := n5_; have GW110 := n6_; have GE110 := n7_; have NB101_110 := n8_; have NB110_101 := n9_; have NB103_110 := n10_; have NB110_103 := n11_; have NB102_110 := n12_; have NB110_102 := n13_; clear n0_ n1_ n2_ n3_ n4_ n5_ n6_ n7_ n8_ n9_ n10_ n11_ n12_ n13_; clear hb hbox hg; have hnb18 := NB110_101.out; have hnc18 := NB101_110.out; have hnb19 := NB110_103.out; have hnc19 := NB103_110.out; have hnb20 := NB110_102.out; have hnc20 := NB102_110.out; have hcz21_0 : w17.cell? ⟨gb110, 0, none⟩ = some (.int .i64 0) := (blk_cell BK110.out 0).trans rfl; have hcz21_1 : w17.cell? ⟨gb110, 1, none⟩ = some (.int .i64 0) := (blk_cell BK110.out 1).trans rfl; have hcz21_2 : w17.cell? ⟨gb110, 2, none⟩ = some (.int .i64 0) := (blk_cell BK110.out 2).trans rfl; have hfz21_0 := blk_frozen BK110.out 0; have hfz21_1 := blk_frozen BK110.out 1; have hfz21_2 := blk_frozen BK110.out 2) | ((with_reducible refine gate_callee (f := 12) rfl ?_); refine goesL_ (some 32) rfl rfl Tryd.func12 (by kernel_rfl) rfl #[.pointer (some ⟨g102, 0, none⟩), .int .i64 5] rfl (by (try simp only [List.map_toArray, List.map_cons, List.map_nil]); first | done | rfl | (simp only [List.length_drop, List.length_take]; rfl)) ?_; (with_reducible refine (wrackmake_Stream_Next.calls g102 t109 5 t111 t112 w _ ?side1 ?side2 A13.out).mono ?_); (case side1 => repeat (first | (with_reducible first | exact HI102.out | apply IsS42.alloc | apply IsS42.drewN | apply IsS42.drew | apply IsS42.set_0 | refine IsS42.far ?_ NB102_101.out _ | refine IsS42.far ?_ NB102_103.out _ | refine IsS42.far ?_ NB102_110.out _) | exact HI102.out)); (case side2 => repeat (first | (with_reducible first | exact HB.out | apply below_alloc | apply pw_below_drewN | apply below_drew1 | refine below_set ?_ (IsS42.ge HI102.out) | refine below_set ?_ GE101.out | refine below_set ?_ GE103.out | refine below_set ?_ GE110.out) | exact HB.out)); rintro e w22 ⟨rfl, hi, hb, hk⟩; refine ⟨_, rfl, ?_⟩; have n0_ := Aside0.mk (Kd.R_mono (Kd.R_keep (IsS42.apart (show IsS42 w _ g102 t109 from by repeat (first | (with_reducible first | exact HI102.out | apply IsS42.alloc | apply IsS42.drewN | apply IsS42.drew | apply IsS42.set_0 | refine IsS42.far ?_ NB102_101.out _ | refine IsS42.far ?_ NB102_103.out _ | refine IsS42.far ?_ NB102_110.out _) | exact HI102.out)) (by (with_reducible repeat (first | apply Kd.R_alloc | apply Kd.R_drewN | apply Kd.R_drew)); exact (Kd.R_mono (Kd.R_far (p := ⟨gb110, 2, none⟩) (Kd.R_far (p := ⟨gb110, 1, none⟩) (Kd.R_far (p := ⟨gb110, 0, none⟩) (Kd.R_mono HO_104001.out (fun k_ hk => (⟨hk, hk.2⟩ : _ ∧ k_ ≠ gb110))) (fun _ hk => hk.2) (.int .i64 x16_1)) (fun _ hk => hk.2) (.int .i64 (wrap64 (1 + t108)))) (fun _ hk => hk.2) (.int .i64 0)) (fun _ h_ => h_.1))) (by decide)) hk (fun _ h => h.2)) (fun _ h => h.1)); have n1_ := Aside0.mk (KeepBut.blk hk (g' := gb101) (o := .cells #[.slice none 0 0, .slice none 0 0] 26 (0, 0)) (by (with_reducible repeat (first | refine blk_drewN ?_ _ | refine blk_drew ?_ | refine blk_alloc ?_ _)); refine blk_far ?_ NB101_110.out _; (with_reducible repeat (first | refine blk_drewN ?_ _ | refine blk_drew ?_ | refine blk_alloc ?_ _)); refine blk_far ?_ NB101_110.out _; (with_reducible repeat (first | refine blk_drewN ?_ _ | refine blk_drew ?_ | refine blk_alloc ?_ _)); refine blk_far ?_ NB101_110.out _; (with_reducible repeat (first | refine blk_drewN ?_ _ | refine blk_drew ?_ | refine blk_alloc ?_ _)); exact BK101.out) NB101_102.out (by simp)); have n2_ := Aside0.mk (KeepBut.blk hk (g' := gb103) (o := .cells #[.slice none 0 0, u104001] 26 (0, 0)) (by (with_reducible repeat (first | refine blk_drewN ?_ _ | refine blk_drew ?_ | refine blk_alloc ?_ _)); refine blk_far ?_ NB103_110.out _; (with_reducible repeat (first | refine blk_drewN ?_ _ | refine blk_drew ?_ | refine blk_alloc ?_ _)); refine blk_far ?_ NB103_110.out _; (with_reducible repeat (first | refine blk_drewN ?_ _ | refine blk_drew ?_ | refine blk_alloc ?_ _)); refine blk_far ?_ NB103_110.out _; (with_reducible repeat (first | refine blk_drewN ?_ _ | refine blk_drew ?_ | refine blk_alloc ?_ _)); exact BK103.out) NB103_102.out (by simp)); have n3_ := Aside0.mk (KeepBut.blk hk (g' := gb110) (o := .cells #[.int .i64 x16_1, .int .i64 (wrap64 (1 + t108)), .int .i64 0] 45 (0, 0)) (by (with_reducible repeat (first | refine blk_drewN ?_ _ | refine blk_drew ?_ | refine blk_alloc ?_ _)); refine blk_put (cs := #[.int .i64 x16_1, .int .i64 (wrap64 (1 + t108)), .int .i64 0]) ?_ 2 _ rfl; (with_reducible repeat (first | refine blk_drewN ?_ _ | refine blk_drew ?_ | refine blk_alloc ?_ _)); refine blk_put (cs := #[.int .i64 x16_1, .int .i64 0, .int .i64 0]) ?_ 1 _ rfl; (with_reducible repeat (first | refine blk_drewN ?_ _ | refine blk_drew ?_ | refine blk_alloc ?_ _)); refine blk_put (cs := #[.int .i64 0, .int .i64 0, .int .i64 0]) ?_ 0 _ rfl; (with_reducible repeat (first | refine blk_drewN ?_ _ | refine blk_drew ?_ | refine blk_alloc ?_ _)); exact BK110.out) NB110_102.out (by simp)); have n4_ := Aside0.mk (hb); have n5_ := Aside0.mk (hi); clear HO_104001; clear BK101; clear BK103; clear BK110; clear HB; clear HI102; have HO_104001 := n0_; have BK101 := n1_; have BK103 := n2_; have BK110 := n3_; have HB := n4_; have HI102 := n5_; clear n0_ n1_ n2_ n3_ n4_ n5_; (try clear hb); (try clear hb2); (try clear hk); (try clear hi); have hcz23_0 : w22.cell? ⟨gb110, 0, none⟩ = some (.int .i64 x16_1) := (blk_cell BK110.out 0).trans rfl; have hcz23_1 : w22.cell? ⟨gb110, 1, none⟩ = some (.int .i64 (wrap64 (1 + t108))) := (blk_cell BK110.out 1).trans rfl; have hcz23_2 : w22.cell? ⟨gb110, 2, none⟩ = some (.int .i64 0) := (blk_cell BK110.out 2).trans rfl; have hfz23_0 := blk_frozen BK110.out 0; have hfz23_1 := blk_frozen BK110.out 1; have hfz23_2 := blk_frozen BK110.out 2; have hnb24 := NB103_101.out; have hnc24 := NB101_103.out; have hnb25 := NB103_102.out; have hnc25 := NB102_103.out; have hcz26_0 : w22.cell? ⟨gb103, 0, none⟩ = some (.slice none 0 0) := (blk_cell BK103.out 0).trans rfl; have hcz26_1 : w22.cell? ⟨gb103, 1, none⟩ = some (u104001) := (blk_cell BK103.out 1).trans rfl; have hfz26_0 := blk_frozen BK103.out 0; have hfz26_1 := blk_frozen BK103.out 1) | ((with_reducible refine gate_builtin (b := .append) (xs := #[.tmp 42, .tmp 44]) rfl ?_); at_builtin; refine Kd.R_append k45 (w0 := w) w.heap.size rfl (.tmp 42) (.tmp 44) 24 45 (.agg #[(.int .i64 0), (.int .i64 0), (.int .i64 0)]) 24 rfl Tryd.underlying24 info45 rfl (by decide) (by omega) u104001 x104001_1 (⟨x16_1, wrap64 (1 + t108), wrap64 (2 + t111)⟩ : S45) [.int .i64 x16_1, .int .i64 (wrap64 (1 + t108)), .int .i64 (wrap64 (2 + t111))] (fun k_ => k_ ≠ gb110) (fun _ => False) rfl (by first | (go_simp; done) | (go_simp; rfl)) ?aP (fun _ hk => hk.elim) ?aF ?aO ?aB ?aS ?aL ?_; (case aP => exact k45_mkM _ _ _ (⟨x16_1, wrap64 (1 + t108), wrap64 (2 + t111)⟩ : S45)); (case aB => exact (by repeat (first | (with_reducible first | exact HB.out | apply below_alloc | apply pw_below_drewN | apply below_drew1 | refine below_set ?_ (IsS42.ge HI102.out) | refine below_set ?_ GE101.out | refine below_set ?_ GE103.out | refine below_set ?_ GE110.out) | exact HB.out))); (case aF => exact (fun k_ hk => Kd.freshB (g := gb110) (o := .cells #[.int .i64 x16_1, .int .i64 (wrap64 (1 + t108)), .int .i64 (wrap64 (2 + t111))] 45 (0, 0)) (by (with_reducible repeat (first | refine blk_drewN ?_ _ | refine blk_drew ?_ | refine blk_alloc ?_ _)); refine blk_put (cs := #[.int .i64 x16_1, .int .i64 (wrap64 (1 + t108)), .int .i64 0]) ?_ 2 _ rfl; (with_reducible repeat (first | refine blk_drewN ?_ _ | refine blk_drew ?_ | refine blk_alloc ?_ _)); exact BK110.out) k_ hk)); (case aO => exact (by (with_reducible repeat (first | apply Kd.R_alloc | apply Kd.R_drewN | apply Kd.R_drew)); exact Kd.R_mono (Kd.R_far (p := ⟨gb110, 2, none⟩) (Kd.R_mono HO_104001.out (fun k_ hk => (⟨hk, hk.2⟩ : _ ∧ k_ ≠ gb110))) (fun _ hk => hk.2) (.int .i64 (wrap64 (2 + t111)))) (fun _ hk => hk.1.2))); (case aS => exact (below_size (by repeat (first | (with_reducible first | exact HB.out | apply below_alloc | apply pw_below_drewN | apply below_drew1 | refine below_set ?_ (IsS42.ge HI102.out) | refine below_set ?_ GE101.out | refine below_set ?_ GE103.out | refine below_set ?_ GE110.out) | exact HB.out)))); (case aL => have := LMc14.out; omega); intro v114 w27 ho hb hg hat; rw [← Ny113.out] at ho; have n0_ := Aside0.mk (blk_grown (g := gb101) (o := .cells #[.slice none 0 0, .slice none 0 0] 26 (0, 0)) (by (with_reducible repeat (first | refine blk_drewN ?_ _ | refine blk_drew ?_ | refine blk_alloc ?_ _)); refine blk_far ?_ NB101_110.out _; (with_reducible repeat (first | refine blk_drewN ?_ _ | refine blk_drew ?_ | refine blk_alloc ?_ _)); exact BK101.out) hg (Kd.R_ne HO_104001.out BK101.out (by decide))); have n1_ := Aside0.mk (blk_grown (g := gb103) (o := .cells #[.slice none 0 0, u104001] 26 (0, 0)) (by (with_reducible repeat (first | refine blk_drewN ?_ _ | refine blk_drew ?_ | refine blk_alloc ?_ _)); refine blk_far ?_ NB103_110.out _; (with_reducible repeat (first | refine blk_drewN ?_ _ | refine blk_drew ?_ | refine blk_alloc ?_ _)); exact BK103.out) hg (Kd.R_ne HO_104001.out BK103.out (by decide))); have n2_ := Aside0.mk (IsS42.grown (show IsS42 w _ g102 t112 from by repeat (first | (with_reducible first | exact HI102.out | apply IsS42.alloc | apply IsS42.drewN | apply IsS42.drew | apply IsS42.set_0 | refine IsS42.far ?_ NB102_101.out _ | refine IsS42.far ?_ NB102_103.out _ | refine IsS42.far ?_ NB102_110.out _) | exact HI102.out)) hg (IsS42.own_ne HI102.out HO_104001.out (by decide))); have n3_ := Aside0.mk (blk_grown (g := gb110) (o := .cells #[.int .i64 x16_1, .int .i64 (wrap64 (1 + t108)), .int .i64 (wrap64 (2 + t111))] 45 (0, 0)) (by (with_reducible repeat (first | refine blk_drewN ?_ _ | refine blk_drew ?_ | refine blk_alloc ?_ _)); refine blk_put (cs := #[.int .i64 x16_1, .int .i64 (wrap64 (1 + t108)), .int .i64 0]) ?_ 2 _ rfl; (with_reducible repeat (first | refine blk_drewN ?_ _ | refine blk_drew ?_ | refine blk_alloc ?_ _)); exact BK110.out) hg (Kd.R_away HO_104001.out (fun _ hk => hk.2))); have n4_ := Aside0.mk (hb); have n5_ := Aside0.mk (ho); clear BK101; clear BK103; clear HI102; clear BK110; clear HB; clear HO_104001; have BK101 := n0_; have BK103 := n1_; have HI102 := n2_; have BK110 := n3_; have HB := n4_; have HO115 := n5_; clear n0_ n1_ n2_ n3_ n4_ n5_; clear ho hb hg hat; obtain ⟨Ao28, co28, eo28⟩ := Kd.R_slice HO115.out; subst eo28; have hcz29_0 : w27.cell? ⟨gb103, 0, none⟩ = some (.slice none 0 0) := (blk_cell BK103.out 0).trans rfl; have hcz29_1 : w27.cell? ⟨gb103, 1, none⟩ = some (u104001) := (blk_cell BK103.out 1).trans rfl; have hfz29_0 := blk_frozen BK103.out 0; have hfz29_1 := blk_frozen BK103.out 1))
              go_roundg k1
              case measure => have := HK1.out; omega
              case rel => exact ⟨(wrap64 (x16_1 + 1)), (t112), (y113), (.slice Ao28 y113.length co28), (by first | rfl | (simp; done) | (simp [*]; done)), H', ⟨by have := HK1.out; omega⟩, ⟨by (with_reducible repeat (first | apply Kd.R_alloc | apply Kd.R_drewN | apply Kd.R_drew)); exact Kd.R_mono (Kd.R_far (p := ⟨gb103, 1, none⟩) (Kd.R_types HO115.out BK103.out (by decide)) (fun _ hk => hk.2) (.slice Ao28 y113.length co28)) (fun _ hk => trivial)⟩, ⟨by (with_reducible repeat (first | refine blk_drewN ?_ _ | refine blk_drew ?_ | refine blk_alloc ?_ _)); refine blk_far ?_ NB101_103.out _; (with_reducible repeat (first | refine blk_drewN ?_ _ | refine blk_drew ?_ | refine blk_alloc ?_ _)); exact BK101.out⟩, ⟨by (with_reducible repeat (first | refine blk_drewN ?_ _ | refine blk_drew ?_ | refine blk_alloc ?_ _)); refine blk_put (cs := #[.slice none 0 0, u104001]) ?_ 1 _ rfl; (with_reducible repeat (first | refine blk_drewN ?_ _ | refine blk_drew ?_ | refine blk_alloc ?_ _)); exact BK103.out⟩, ⟨by repeat (first | (with_reducible first | exact HI102.out | apply IsS42.alloc | apply IsS42.drewN | apply IsS42.drew | apply IsS42.set_0 | refine IsS42.far ?_ NB102_101.out _ | refine IsS42.far ?_ NB102_103.out _ | refine IsS42.far ?_ NB102_110.out _) | exact HI102.out)⟩, ⟨by repeat (first | (with_reducible first | exact HB.out | apply below_alloc | apply pw_below_drewN | apply below_drew1 | refine below_set ?_ (IsS42.ge HI102.out) | refine below_set ?_ GE101.out | refine below_set ?_ GE103.out | refine below_set ?_ GE110.out) | exact HB.out)⟩⟩
            · rw [if_neg c14] at H
              exact absurd H (by simp)
          · rw [if_neg c12] at H
            have c12b0 : ((wrap64 (1 + t108)) == 2) = false := beq_eq_false_iff_ne.mpr c12
            have c12b1 : ((wrap64 (1 + t108)) != 2) = true := bne_iff_ne.mpr c12
            by_cases c30 : (wrap64 (1 + t108)) = 3
            · rw [if_pos c30] at H
              have c30b0 : ((wrap64 (1 + t108)) == 3) = true := beq_iff_eq.mpr c30
              have c30b1 : ((wrap64 (1 + t108)) != 3) = false := bne_eq_false_iff_eq.mpr c30
              clear c30
              replace H := Option.bind_eq_some_iff.mp H
              obtain ⟨⟨t116, t117⟩, A310, H⟩ := H
              replace H : (if x104001_1.length < 5864062014805 then (wrackmake_Drive.l0 k1 (wrap64 (1 + t104)) (wrap64 (1 + t104)) (wrap64 (x16_1 + 1)) t117 (x104001_1 ++ [(⟨x16_1, wrap64 (1 + t108), wrap64 (2 + t116)⟩ : S45)])) else (none)) = some (r1, r2) := H
              have A31 := Aside0.mk A310
              clear A310
              by_cases c32 : x104001_1.length < 5864062014805
              · rw [if_pos c32] at H
                have LMc32 := Aside0.mk c32
                clear c32
                obtain ⟨y118, hy118⟩ : ∃ y_ : List (S45), y_ = (x104001_1 ++ [(⟨x16_1, wrap64 (1 + t108), wrap64 (2 + t116)⟩ : S45)]) := ⟨_, rfl⟩
                replace H : (wrackmake_Drive.l0 k1 (wrap64 (1 + t104)) (wrap64 (1 + t104)) (wrap64 (x16_1 + 1)) t117 y118) = some (r1, r2) := by first | (rw [hy118]; with_reducible exact H) | (have H2_ := (Option.bind_some _ _).symm.trans H; rw [hy118]; with_reducible exact H2_) | (have H2_ := (Option.bind_some _ _).symm.trans H; with_reducible exact H2_) | with_reducible exact H | (rw [hy118]; exact H) | exact H
                have Ny118 := Aside0.mk hy118
                clear hy118
                have H' := Aside0.mk H
                clear H
                go_wp2_with (first | ((with_reducible refine gate_callee (f := 12) rfl ?_); refine goesL_ (some 20) rfl rfl Tryd.func12 (by kernel_rfl) rfl #[.pointer (some ⟨g102, 0, none⟩), .int .i64 4] rfl (by (try simp only [List.map_toArray, List.map_cons, List.map_nil]); first | done | rfl | (simp only [List.length_drop, List.length_take]; rfl)) ?_; (with_reducible refine (wrackmake_Stream_Next.calls g102 x103000_1 4 t106 t107 w _ ?side1 ?side2 A8.out).mono ?_); (case side1 => repeat (first | (with_reducible first | exact HI102.out | apply IsS42.alloc | apply IsS42.drewN | apply IsS42.drew | apply IsS42.set_0 | refine IsS42.far ?_ NB102_101.out _ | refine IsS42.far ?_ NB102_103.out _) | exact HI102.out)); (case side2 => repeat (first | (with_reducible first | exact HB.out | apply below_alloc | apply pw_below_drewN | apply below_drew1 | refine below_set ?_ (IsS42.ge HI102.out) | refine below_set ?_ GE101.out | refine below_set ?_ GE103.out) | exact HB.out)); rintro e w33 ⟨rfl, hi, hb, hk⟩; refine ⟨_, rfl, ?_⟩; have n0_ := Aside0.mk (Kd.R_mono (Kd.R_keep (IsS42.apart (show IsS42 w _ g102 x103000_1 from by repeat (first | (with_reducible first | exact HI102.out | apply IsS42.alloc | apply IsS42.drewN | apply IsS42.drew | apply IsS42.set_0 | refine IsS42.far ?_ NB102_101.out _ | refine IsS42.far ?_ NB102_103.out _) | exact HI102.out)) (by (with_reducible repeat (first | apply Kd.R_alloc | apply Kd.R_drewN | apply Kd.R_drew)); exact HO_104001.out) (by decide)) hk (fun _ h => h.2)) (fun _ h => h.1)); have n1_ := Aside0.mk (KeepBut.blk hk (g' := gb101) (o := .cells #[.slice none 0 0, .slice none 0 0] 26 (0, 0)) (by (with_reducible repeat (first | refine blk_drewN ?_ _ | refine blk_drew ?_ | refine blk_alloc ?_ _)); exact BK101.out) NB101_102.out (by simp)); have n2_ := Aside0.mk (KeepBut.blk hk (g' := gb103) (o := .cells #[.slice none 0 0, u104001] 26 (0, 0)) (by (with_reducible repeat (first | refine blk_drewN ?_ _ | refine blk_drew ?_ | refine blk_alloc ?_ _)); exact BK103.out) NB103_102.out (by simp)); have n3_ := Aside0.mk (hb); have n4_ := Aside0.mk (hi); clear HO_104001; clear BK101; clear BK103; clear HB; clear HI102; have HO_104001 := n0_; have BK101 := n1_; have BK103 := n2_; have HB := n3_; have HI102 := n4_; clear n0_ n1_ n2_ n3_ n4_; (try clear hb); (try clear hb2); (try clear hk); (try clear hi)) | ((with_reducible refine gate_callee (f := 12) rfl ?_); refine goesL_ (some 24) rfl rfl Tryd.func12 (by kernel_rfl) rfl #[.pointer (some ⟨g102, 0, none⟩), .int .i64 3] rfl (by (try simp only [List.map_toArray, List.map_cons, List.map_nil]); first | done | rfl | (simp only [List.length_drop, List.length_take]; rfl)) ?_; (with_reducible refine (wrackmake_Stream_Next.calls g102 t107 3 t108 t109 w _ ?side1 ?side2 A11.out).mono ?_); (case side1 => repeat (first | (with_reducible first | exact HI102.out | apply IsS42.alloc | apply IsS42.drewN | apply IsS42.drew | apply IsS42.set_0 | refine IsS42.far ?_ NB102_101.out _ | refine IsS42.far ?_ NB102_103.out _) | exact HI102.out)); (case side2 => repeat (first | (with_reducible first | exact HB.out | apply below_alloc | apply pw_below_drewN | apply below_drew1 | refine below_set ?_ (IsS42.ge HI102.out) | refine below_set ?_ GE101.out | refine below_set ?_ GE103.out) | exact HB.out)); rintro e w34 ⟨rfl, hi, hb, hk⟩; refine ⟨_, rfl, ?_⟩; have n0_ := Aside0.mk (Kd.R_mono (Kd.R_keep (IsS42.apart (show IsS42 w _ g102 t107 from by repeat (first | (with_reducible first | exact HI102.out | apply IsS42.alloc | apply IsS42.drewN | apply IsS42.drew | apply IsS42.set_0 | refine IsS42.far ?_ NB102_101.out _ | refine IsS42.far ?_ NB102_103.out _) | exact HI102.out)) (by (with_reducible repeat (first | apply Kd.R_alloc | apply Kd.R_drewN | apply Kd.R_drew)); exact HO_104001.out) (by decide)) hk (fun _ h => h.2)) (fun _ h => h.1)); have n1_ := Aside0.mk (KeepBut.blk hk (g' := gb101) (o := .cells #[.slice none 0 0, .slice none 0 0] 26 (0, 0)) (by (with_reducible repeat (first | refine blk_drewN ?_ _ | refine blk_drew ?_ | refine blk_alloc ?_ _)); exact BK101.out) NB101_102.out (by simp)); have n2_ := Aside0.mk (KeepBut.blk hk (g' := gb103) (o := .cells #[.slice none 0 0, u104001] 26 (0, 0)) (by (with_reducible repeat (first | refine blk_drewN ?_ _ | refine blk_drew ?_ | refine blk_alloc ?_ _)); exact BK103.out) NB103_102.out (by simp)); have n3_ := Aside0.mk (hb); have n4_ := Aside0.mk (hi); clear HO_104001; clear BK101; clear BK103; clear HB; clear HI102; have HO_104001 := n0_; have BK101 := n1_; have BK103 := n2_; have HB := n3_; have HI102 := n4_; clear n0_ n1_ n2_ n3_ n4_; (try clear hb); (try clear hb2); (try clear hk); (try clear hi)) | ((with_reducible refine gate_dst (N := 7) rfl ?_); refine box_event ?hg (N := 7) ?hd (cs := #[.int .i64 0, .int .i64 0, .int .i64 0]) (t := 45) ?hr ?_; (case hd => rfl); (case hg => rfl); (case hr => first | (go_simp; done) | (go_simp; rfl)); intro gb110 hg w35 hbox hb; have n0_ := Aside0.mk (Kd.R_below (Kd.R_elderB (by (with_reducible repeat (first | apply Kd.R_alloc | apply Kd.R_drewN | apply Kd.R_drew)); exact HO_104001.out) gb110 (Nat.le_of_eq hg.symm)) hb); have n1_ := Aside0.mk (blk_below (g := gb101) (o := .cells #[.slice none 0 0, .slice none 0 0] 26 (0, 0)) (by (with_reducible repeat (first | refine blk_drewN ?_ _ | refine blk_drew ?_ | refine blk_alloc ?_ _)); exact BK101.out) hb); have n2_ := Aside0.mk (blk_below (g := gb103) (o := .cells #[.slice none 0 0, u104001] 26 (0, 0)) (by (with_reducible repeat (first | refine blk_drewN ?_ _ | refine blk_drew ?_ | refine blk_alloc ?_ _)); exact BK103.out) hb); have n3_ := Aside0.mk (IsS42.below (by repeat (first | (with_reducible first | exact HI102.out | apply IsS42.alloc | apply IsS42.drewN | apply IsS42.drew | apply IsS42.set_0 | refine IsS42.far ?_ NB102_101.out _ | refine IsS42.far ?_ NB102_103.out _) | exact HI102.out)) hb); have n4_ := Aside0.mk (below_step (by repeat (first | (with_reducible first | exact HB.out | apply below_alloc | apply pw_below_drewN | apply below_drew1 | refine below_set ?_ (IsS42.ge HI102.out) | refine below_set ?_ GE101.out | refine below_set ?_ GE103.out) | exact HB.out)) hb); have n5_ := Aside0.mk (hbox); have n6_ := Aside0.mk ((by rw [hg]; exact (below_size (by repeat (first | (with_reducible first | exact HB.out | apply below_alloc | apply pw_below_drewN | apply below_drew1 | refine below_set ?_ (IsS42.ge HI102.out) | refine below_set ?_ GE101.out | refine below_set ?_ GE103.out) | exact HB.out))) : w.heap.size ≤ gb110)); have n7_ := Aside0.mk ((by rw [hg]; exact (below_size (by repeat (first | (with_reducible first | exact HB.out | apply below_alloc | apply pw_below_drewN | apply below_drew1 | refine below_set ?_ (IsS42.ge HI102.out) | refine below_set ?_ GE101.out | refine below_set ?_ GE103.out) | exact HB.out))) : w.heap.size ≤ gb110)); have n8_ := Aside0.mk ((by rw [hg]; exact Nat.ne_of_lt (blk_lt (g := gb101) (o := .cells #[.slice none 0 0, .slice none 0 0] 26 (0, 0)) (by (with_reducible repeat (first | refine blk_drewN ?_ _ | refine blk_drew ?_ | refine blk_alloc ?_ _)); exact BK101.out)) : gb101 ≠ gb110)); have n9_ := Aside0.mk ((by rw [hg]; exact Nat.ne_of_gt (blk_lt (g := gb101) (o := .cells #[.slice none 0 0, .slice none 0 0] 26 (0, 0)) (by (with_reducible repeat (first | refine blk_drewN ?_ _ | refine blk_drew ?_ | refine blk_alloc ?_ _)); exact BK101.out)) : gb110 ≠ gb101)); have n10_ := Aside0.mk ((by rw [hg]; exact Nat.ne_of_lt (blk_lt (g := gb103) (o := .cells #[.slice none 0 0, u104001] 26 (0, 0)) (by (with_reducible repeat (first | refine blk_drewN ?_ _ | refine blk_drew ?_ | refine blk_alloc ?_ _)); exact BK103.out)) : gb103 ≠ gb110)); have n11_ := Aside0.mk ((by rw [hg]; exact Nat.ne_of_gt (blk_lt (g := gb103) (o := .cells #[.slice none 0 0, u104001] 26 (0, 0)) (by (with_reducible repeat (first | refine blk_drewN ?_ _ | refine blk_drew ?_ | refine blk_alloc ?_ _)); exact BK103.out)) : gb110 ≠ gb103)); have n12_ := Aside0.mk ((by rw [hg]; exact Nat.ne_of_lt (IsS42.lt (show IsS42 w _ g102 t109 from by repeat (first | (with_reducible first | exact HI102.out | apply IsS42.alloc | apply IsS42.drewN | apply IsS42.drew | apply IsS42.set_0 | refine IsS42.far ?_ NB102_101.out _ | refine IsS42.far ?_ NB102_103.out _) | exact HI102.out))) : g102 ≠ gb110)); have n13_ := Aside0.mk ((by rw [hg]; exact Nat.ne_of_gt (IsS42.lt (show IsS42 w _ g102 t109 from by repeat (first | (with_reducible first | exact HI102.out | apply IsS42.alloc | apply IsS42.drewN | apply IsS42.drew | apply IsS42.set_0 | refine IsS42.far ?_ NB102_101.out _ | refine IsS42.far ?_ NB102_103.out _) | exact HI102.out))) : gb110 ≠ g102)); clear HO_104001; clear BK101; clear BK103; clear HI102; clear HB; have HO_104001 := n0_; have BK101 := n1_; have BK103 := n2_; have HI102 := n3_; have HB := n4_; have BK110 := n5_; have GW110 := n6_; have GE110 := n7_; have NB101_110 := n8_; have NB110_101 := n9_; have NB103_110 := n10_; have NB110_103 := n11_; have NB102_110 := n12_; have NB110_102 := n13_; clear n0_ n1_ n2_ n3_ n4_ n5_ n6_ n7_ n8_ n9_ n10_ n11_ n12_ n13_; clear hb hbox hg; have hnb36 := NB110_101.out; have hnc36 := NB101_110.out; have hnb37 := NB110_103.out; have hnc37 := NB103_110.out; have hnb38 := NB110_102.out; have hnc38 := NB102_110.out; have hcz39_0 : w35.cell? ⟨gb110, 0, none⟩ = some (.int .i64 0) := (blk_cell BK110.out 0).trans rfl; have hcz39_1 : w35.cell? ⟨gb110, 1, none⟩ = some (.int .i64 0) := (blk_cell BK110.out 1).trans rfl; have hcz39_2 : w35.cell? ⟨gb110, 2, none⟩ = some (.int .i64 0) := (blk_cell BK110.out 2).trans rfl; have hfz39_0 := blk_frozen BK110.out 0; have hfz39_1 := blk_frozen BK110.out 1; have hfz39_2 := blk_frozen BK110.out 2) | ((with_reducible refine gate_callee (f := 12) rfl ?_); refine goesL_ (some 38) rfl rfl Tryd.func12 (by kernel_rfl) rfl #[.pointer (some ⟨g102, 0, none⟩), .int .i64 9] rfl (by (try simp only [List.map_toArray, List.map_cons, List.map_nil]); first | done | rfl | (simp only [List.length_drop, List.length_take]; rfl)) ?_; (with_reducible refine (wrackmake_Stream_Next.calls g102 t109 9 t116 t117 w _ ?side1 ?side2 A31.out).mono ?_); (case side1 => repeat (first | (with_reducible first | exact HI102.out | apply IsS42.alloc | apply IsS42.drewN | apply IsS42.drew | apply IsS42.set_0 | refine IsS42.far ?_ NB102_101.out _ | refine IsS42.far ?_ NB102_103.out _ | refine IsS42.far ?_ NB102_110.out _) | exact HI102.out)); (case side2 => repeat (first | (with_reducible first | exact HB.out | apply below_alloc | apply pw_below_drewN | apply below_drew1 | refine below_set ?_ (IsS42.ge HI102.out) | refine below_set ?_ GE101.out | refine below_set ?_ GE103.out | refine below_set ?_ GE110.out) | exact HB.out)); rintro e w40 ⟨rfl, hi, hb, hk⟩; refine ⟨_, rfl, ?_⟩; have n0_ := Aside0.mk (Kd.R_mono (Kd.R_keep (IsS42.apart (show IsS42 w _ g102 t109 from by repeat (first | (with_reducible first | exact HI102.out | apply IsS42.alloc | apply IsS42.drewN | apply IsS42.drew | apply IsS42.set_0 | refine IsS42.far ?_ NB102_101.out _ | refine IsS42.far ?_ NB102_103.out _ | refine IsS42.far ?_ NB102_110.out _) | exact HI102.out)) (by (with_reducible repeat (first | apply Kd.R_alloc | apply Kd.R_drewN | apply Kd.R_drew)); exact (Kd.R_mono (Kd.R_far (p := ⟨gb110, 2, none⟩) (Kd.R_far (p := ⟨gb110, 1, none⟩) (Kd.R_far (p := ⟨gb110, 0, none⟩) (Kd.R_mono HO_104001.out (fun k_ hk => (⟨hk, hk.2⟩ : _ ∧ k_ ≠ gb110))) (fun _ hk => hk.2) (.int .i64 x16_1)) (fun _ hk => hk.2) (.int .i64 (wrap64 (1 + t108)))) (fun _ hk => hk.2) (.int .i64 0)) (fun _ h_ => h_.1))) (by decide)) hk (fun _ h => h.2)) (fun _ h => h.1)); have n1_ := Aside0.mk (KeepBut.blk hk (g' := gb101) (o := .cells #[.slice none 0 0, .slice none 0 0] 26 (0, 0)) (by (with_reducible repeat (first | refine blk_drewN ?_ _ | refine blk_drew ?_ | refine blk_alloc ?_ _)); refine blk_far ?_ NB101_110.out _; (with_reducible repeat (first | refine blk_drewN ?_ _ | refine blk_drew ?_ | refine blk_alloc ?_ _)); refine blk_far ?_ NB101_110.out _; (with_reducible repeat (first | refine blk_drewN ?_ _ | refine blk_drew ?_ | refine blk_alloc ?_ _)); refine blk_far ?_ NB101_110.out _; (with_reducible repeat (first | refine blk_drewN ?_ _ | refine blk_drew ?_ | refine blk_alloc ?_ _)); exact BK101.out) NB101_102.out (by simp)); have n2_ := Aside0.mk (KeepBut.blk hk (g' := gb103) (o := .cells #[.slice none 0 0, u104001] 26 (0, 0)) (by (with_reducible repeat (first | refine blk_drewN ?_ _ | refine blk_drew ?_ | refine blk_alloc ?_ _)); refine blk_far ?_ NB103_110.out _; (with_reducible repeat (first | refine blk_drewN ?_ _ | refine blk_drew ?_ | refine blk_alloc ?_ _)); refine blk_far ?_ NB103_110.out _; (with_reducible repeat (first | refine blk_drewN ?_ _ | refine blk_drew ?_ | refine blk_alloc ?_ _)); refine blk_far ?_ NB103_110.out _; (with_reducible repeat (first | refine blk_drewN ?_ _ | refine blk_drew ?_ | refine blk_alloc ?_ _)); exact BK103.out) NB103_102.out (by simp)); have n3_ := Aside0.mk (KeepBut.blk hk (g' := gb110) (o := .cells #[.int .i64 x16_1, .int .i64 (wrap64 (1 + t108)), .int .i64 0] 45 (0, 0)) (by (with_reducible repeat (first | refine blk_drewN ?_ _ | refine blk_drew ?_ | refine blk_alloc ?_ _)); refine blk_put (cs := #[.int .i64 x16_1, .int .i64 (wrap64 (1 + t108)), .int .i64 0]) ?_ 2 _ rfl; (with_reducible repeat (first | refine blk_drewN ?_ _ | refine blk_drew ?_ | refine blk_alloc ?_ _)); refine blk_put (cs := #[.int .i64 x16_1, .int .i64 0, .int .i64 0]) ?_ 1 _ rfl; (with_reducible repeat (first | refine blk_drewN ?_ _ | refine blk_drew ?_ | refine blk_alloc ?_ _)); refine blk_put (cs := #[.int .i64 0, .int .i64 0, .int .i64 0]) ?_ 0 _ rfl; (with_reducible repeat (first | refine blk_drewN ?_ _ | refine blk_drew ?_ | refine blk_alloc ?_ _)); exact BK110.out) NB110_102.out (by simp)); have n4_ := Aside0.mk (hb); have n5_ := Aside0.mk (hi); clear HO_104001; clear BK101; clear BK103; clear BK110; clear HB; clear HI102; have HO_104001 := n0_; have BK101 := n1_; have BK103 := n2_; have BK110 := n3_; have HB := n4_; have HI102 := n5_; clear n0_ n1_ n2_ n3_ n4_ n5_; (try clear hb); (try clear hb2); (try clear hk); (try clear hi); have hcz41_0 : w40.cell? ⟨gb110, 0, none⟩ = some (.int .i64 x16_1) := (blk_cell BK110.out 0).trans rfl; have hcz41_1 : w40.cell? ⟨gb110, 1, none⟩ = some (.int .i64 (wrap64 (1 + t108))) := (blk_cell BK110.out 1).trans rfl; have hcz41_2 : w40.cell? ⟨gb110, 2, none⟩ = some (.int .i64 0) := (blk_cell BK110.out 2).trans rfl; have hfz41_0 := blk_frozen BK110.out 0; have hfz41_1 := blk_frozen BK110.out 1; have hfz41_2 := blk_frozen BK110.out 2; have hnb42 := NB103_101.out; have hnc42 := NB101_103.out; have hnb43 := NB103_102.out; have hnc43 := NB102_103.out; have hcz44_0 : w40.cell? ⟨gb103, 0, none⟩ = some (.slice none 0 0) := (blk_cell BK103.out 0).trans rfl; have hcz44_1 : w40.cell? ⟨gb103, 1, none⟩ = some (u104001) := (blk_cell BK103.out 1).trans rfl; have hfz44_0 := blk_frozen BK103.out 0; have hfz44_1 := blk_frozen BK103.out 1) | ((with_reducible refine gate_builtin (b := .append) (xs := #[.tmp 42, .tmp 44]) rfl ?_); at_builtin; refine Kd.R_append k45 (w0 := w) w.heap.size rfl (.tmp 42) (.tmp 44) 24 45 (.agg #[(.int .i64 0), (.int .i64 0), (.int .i64 0)]) 24 rfl Tryd.underlying24 info45 rfl (by decide) (by omega) u104001 x104001_1 (⟨x16_1, wrap64 (1 + t108), wrap64 (2 + t116)⟩ : S45) [.int .i64 x16_1, .int .i64 (wrap64 (1 + t108)), .int .i64 (wrap64 (2 + t116))] (fun k_ => k_ ≠ gb110) (fun _ => False) rfl (by first | (go_simp; done) | (go_simp; rfl)) ?aP (fun _ hk => hk.elim) ?aF ?aO ?aB ?aS ?aL ?_; (case aP => exact k45_mkM _ _ _ (⟨x16_1, wrap64 (1 + t108), wrap64 (2 + t116)⟩ : S45)); (case aB => exact (by repeat (first | (with_reducible first | exact HB.out | apply below_alloc | apply pw_below_drewN | apply below_drew1 | refine below_set ?_ (IsS42.ge HI102.out) | refine below_set ?_ GE101.out | refine below_set ?_ GE103.out | refine below_set ?_ GE110.out) | exact HB.out))); (case aF => exact (fun k_ hk => Kd.freshB (g := gb110) (o := .cells #[.int .i64 x16_1, .int .i64 (wrap64 (1 + t108)), .int .i64 (wrap64 (2 + t116))] 45 (0, 0)) (by (with_reducible repeat (first | refine blk_drewN ?_ _ | refine blk_drew ?_ | refine blk_alloc ?_ _)); refine blk_put (cs := #[.int .i64 x16_1, .int .i64 (wrap64 (1 + t108)), .int .i64 0]) ?_ 2 _ rfl; (with_reducible repeat (first | refine blk_drewN ?_ _ | refine blk_drew ?_ | refine blk_alloc ?_ _)); exact BK110.out) k_ hk)); (case aO => exact (by (with_reducible repeat (first | apply Kd.R_alloc | apply Kd.R_drewN | apply Kd.R_drew)); exact Kd.R_mono (Kd.R_far (p := ⟨gb110, 2, none⟩) (Kd.R_mono HO_104001.out (fun k_ hk => (⟨hk, hk.2⟩ : _ ∧ k_ ≠ gb110))) (fun _ hk => hk.2) (.int .i64 (wrap64 (2 + t116)))) (fun _ hk => hk.1.2))); (case aS => exact (below_size (by repeat (first | (with_reducible first | exact HB.out | apply below_alloc | apply pw_below_drewN | apply below_drew1 | refine below_set ?_ (IsS42.ge HI102.out) | refine below_set ?_ GE101.out | refine below_set ?_ GE103.out | refine below_set ?_ GE110.out) | exact HB.out)))); (case aL => have := LMc32.out; omega); intro v119 w45 ho hb hg hat; rw [← Ny118.out] at ho; have n0_ := Aside0.mk (blk_grown (g := gb101) (o := .cells #[.slice none 0 0, .slice none 0 0] 26 (0, 0)) (by (with_reducible repeat (first | refine blk_drewN ?_ _ | refine blk_drew ?_ | refine blk_alloc ?_ _)); refine blk_far ?_ NB101_110.out _; (with_reducible repeat (first | refine blk_drewN ?_ _ | refine blk_drew ?_ | refine blk_alloc ?_ _)); exact BK101.out) hg (Kd.R_ne HO_104001.out BK101.out (by decide))); have n1_ := Aside0.mk (blk_grown (g := gb103) (o := .cells #[.slice none 0 0, u104001] 26 (0, 0)) (by (with_reducible repeat (first | refine blk_drewN ?_ _ | refine blk_drew ?_ | refine blk_alloc ?_ _)); refine blk_far ?_ NB103_110.out _; (with_reducible repeat (first | refine blk_drewN ?_ _ | refine blk_drew ?_ | refine blk_alloc ?_ _)); exact BK103.out) hg (Kd.R_ne HO_104001.out BK103.out (by decide))); have n2_ := Aside0.mk (IsS42.grown (show IsS42 w _ g102 t117 from by repeat (first | (with_reducible first | exact HI102.out | apply IsS42.alloc | apply IsS42.drewN | apply IsS42.drew | apply IsS42.set_0 | refine IsS42.far ?_ NB102_101.out _ | refine IsS42.far ?_ NB102_103.out _ | refine IsS42.far ?_ NB102_110.out _) | exact HI102.out)) hg (IsS42.own_ne HI102.out HO_104001.out (by decide))); have n3_ := Aside0.mk (blk_grown (g := gb110) (o := .cells #[.int .i64 x16_1, .int .i64 (wrap64 (1 + t108)), .int .i64 (wrap64 (2 + t116))] 45 (0, 0)) (by (with_reducible repeat (first | refine blk_drewN ?_ _ | refine blk_drew ?_ | refine blk_alloc ?_ _)); refine blk_put (cs := #[.int .i64 x16_1, .int .i64 (wrap64 (1 + t108)), .int .i64 0]) ?_ 2 _ rfl; (with_reducible repeat (first | refine blk_drewN ?_ _ | refine blk_drew ?_ | refine blk_alloc ?_ _)); exact BK110.out) hg (Kd.R_away HO_104001.out (fun _ hk => hk.2))); have n4_ := Aside0.mk (hb); have n5_ := Aside0.mk (ho); clear BK101; clear BK103; clear HI102; clear BK110; clear HB; clear HO_104001; have BK101 := n0_; have BK103 := n1_; have HI102 := n2_; have BK110 := n3_; have HB := n4_; have HO120 := n5_; clear n0_ n1_ n2_ n3_ n4_ n5_; clear ho hb hg hat; obtain ⟨Ao46, co46, eo46⟩ := Kd.R_slice HO120.out; subst eo46; have hcz47_0 : w45.cell? ⟨gb103, 0, none⟩ = some (.slice none 0 0) := (blk_cell BK103.out 0).trans rfl; have hcz47_1 : w45.cell? ⟨gb103, 1, none⟩ = some (u104001) := (blk_cell BK103.out 1).trans rfl; have hfz47_0 := blk_frozen BK103.out 0; have hfz47_1 := blk_frozen BK103.out 1))
                go_roundg k1
                case measure => have := HK1.out; omega
                case rel => exact ⟨(wrap64 (x16_1 + 1)), (t117), (y118), (.slice Ao46 y118.length co46), (by first | rfl | (simp; done) | (simp [*]; done)), H', ⟨by have := HK1.out; omega⟩, ⟨by (with_reducible repeat (first | apply Kd.R_alloc | apply Kd.R_drewN | apply Kd.R_drew)); exact Kd.R_mono (Kd.R_far (p := ⟨gb103, 1, none⟩) (Kd.R_types HO120.out BK103.out (by decide)) (fun _ hk => hk.2) (.slice Ao46 y118.length co46)) (fun _ hk => trivial)⟩, ⟨by (with_reducible repeat (first | refine blk_drewN ?_ _ | refine blk_drew ?_ | refine blk_alloc ?_ _)); refine blk_far ?_ NB101_103.out _; (with_reducible repeat (first | refine blk_drewN ?_ _ | refine blk_drew ?_ | refine blk_alloc ?_ _)); exact BK101.out⟩, ⟨by (with_reducible repeat (first | refine blk_drewN ?_ _ | refine blk_drew ?_ | refine blk_alloc ?_ _)); refine blk_put (cs := #[.slice none 0 0, u104001]) ?_ 1 _ rfl; (with_reducible repeat (first | refine blk_drewN ?_ _ | refine blk_drew ?_ | refine blk_alloc ?_ _)); exact BK103.out⟩, ⟨by repeat (first | (with_reducible first | exact HI102.out | apply IsS42.alloc | apply IsS42.drewN | apply IsS42.drew | apply IsS42.set_0 | refine IsS42.far ?_ NB102_101.out _ | refine IsS42.far ?_ NB102_103.out _ | refine IsS42.far ?_ NB102_110.out _) | exact HI102.out)⟩, ⟨by repeat (first | (with_reducible first | exact HB.out | apply below_alloc | apply pw_below_drewN | apply below_drew1 | refine below_set ?_ (IsS42.ge HI102.out) | refine below_set ?_ GE101.out | refine below_set ?_ GE103.out | refine below_set ?_ GE110.out) | exact HB.out)⟩⟩
              · rw [if_neg c32] at H
                exact absurd H (by simp)
            · rw [if_neg c30] at H
              have c30b0 : ((wrap64 (1 + t108)) == 3) = false := beq_eq_false_iff_ne.mpr c30
              have c30b1 : ((wrap64 (1 + t108)) != 3) = true := bne_iff_ne.mpr c30
              by_cases c48 : x104001_1.length < 5864062014805
              · rw [if_pos c48] at H
                have LMc48 := Aside0.mk c48
                clear c48
                obtain ⟨y121, hy121⟩ : ∃ y_ : List (S45), y_ = (x104001_1 ++ [(⟨x16_1, wrap64 (1 + t108), 0⟩ : S45)]) := ⟨_, rfl⟩
                replace H : (wrackmake_Drive.l0 k1 (wrap64 (1 + t104)) (wrap64 (1 + t104)) (wrap64 (x16_1 + 1)) t109 y121) = some (r1, r2) := by first | (rw [hy121]; with_reducible exact H) | (have H2_ := (Option.bind_some _ _).symm.trans H; rw [hy121]; with_reducible exact H2_) | (have H2_ := (Option.bind_some _ _).symm.trans H; with_reducible exact H2_) | with_reducible exact H | (rw [hy121]; exact H) | exact H
                have Ny121 := Aside0.mk hy121
                clear hy121
                have H' := Aside0.mk H
                clear H
                go_wp2_with (first | ((with_reducible refine gate_callee (f := 12) rfl ?_); refine goesL_ (some 20) rfl rfl Tryd.func12 (by kernel_rfl) rfl #[.pointer (some ⟨g102, 0, none⟩), .int .i64 4] rfl (by (try simp only [List.map_toArray, List.map_cons, List.map_nil]); first | done | rfl | (simp only [List.length_drop, List.length_take]; rfl)) ?_; (with_reducible refine (wrackmake_Stream_Next.calls g102 x103000_1 4 t106 t107 w _ ?side1 ?side2 A8.out).mono ?_); (case side1 => repeat (first | (with_reducible first | exact HI102.out | apply IsS42.alloc | apply IsS42.drewN | apply IsS42.drew | apply IsS42.set_0 | refine IsS42.far ?_ NB102_101.out _ | refine IsS42.far ?_ NB102_103.out _) | exact HI102.out)); (case side2 => repeat (first | (with_reducible first | exact HB.out | apply below_alloc | apply pw_below_drewN | apply below_drew1 | refine below_set ?_ (IsS42.ge HI102.out) | refine below_set ?_ GE101.out | refine below_set ?_ GE103.out) | exact HB.out)); rintro e w49 ⟨rfl, hi, hb, hk⟩; refine ⟨_, rfl, ?_⟩; have n0_ := Aside0.mk (Kd.R_mono (Kd.R_keep (IsS42.apart (show IsS42 w _ g102 x103000_1 from by repeat (first | (with_reducible first | exact HI102.out | apply IsS42.alloc | apply IsS42.drewN | apply IsS42.drew | apply IsS42.set_0 | refine IsS42.far ?_ NB102_101.out _ | refine IsS42.far ?_ NB102_103.out _) | exact HI102.out)) (by (with_reducible repeat (first | apply Kd.R_alloc | apply Kd.R_drewN | apply Kd.R_drew)); exact HO_104001.out) (by decide)) hk (fun _ h => h.2)) (fun _ h => h.1)); have n1_ := Aside0.mk (KeepBut.blk hk (g' := gb101) (o := .cells #[.slice none 0 0, .slice none 0 0] 26 (0, 0)) (by (with_reducible repeat (first | refine blk_drewN ?_ _ | refine blk_drew ?_ | refine blk_alloc ?_ _)); exact BK101.out) NB101_102.out (by simp)); have n2_ := Aside0.mk (KeepBut.blk hk (g' := gb103) (o := .cells #[.slice none 0 0, u104001] 26 (0, 0)) (by (with_reducible repeat (first | refine blk_drewN ?_ _ | refine blk_drew ?_ | refine blk_alloc ?_ _)); exact BK103.out) NB103_102.out (by simp)); have n3_ := Aside0.mk (hb); have n4_ := Aside0.mk (hi); clear HO_104001; clear BK101; clear BK103; clear HB; clear HI102; have HO_104001 := n0_; have BK101 := n1_; have BK103 := n2_; have HB := n3_; have HI102 := n4_; clear n0_ n1_ n2_ n3_ n4_; (try clear hb); (try clear hb2); (try clear hk); (try clear hi)) | ((with_reducible refine gate_callee (f := 12) rfl ?_); refine goesL_ (some 24) rfl rfl Tryd.func12 (by kernel_rfl) rfl #[.pointer (some ⟨g102, 0, none⟩), .int .i64 3] rfl (by (try simp only [List.map_toArray, List.map_cons, List.map_nil]); first | done | rfl | (simp only [List.length_drop, List.length_take]; rfl)) ?_; (with_reducible refine (wrackmake_Stream_Next.calls g102 t107 3 t108 t109 w _ ?side1 ?side2 A11.out).mono ?_); (case side1 => repeat (first | (with_reducible first | exact HI102.out | apply IsS42.alloc | apply IsS42.drewN | apply IsS42.drew | apply IsS42.set_0 | refine IsS42.far ?_ NB102_101.out _ | refine IsS42.far ?_ NB102_103.out _) | exact HI102.out)); (case side2 => repeat (first | (with_reducible first | exact HB.out | apply below_alloc | apply pw_below_drewN | apply below_drew1 | refine below_set ?_ (IsS42.ge HI102.out) | refine below_set ?_ GE101.out | refine below_set ?_ GE103.out) | exact HB.out)); rintro e w50 ⟨rfl, hi, hb, hk⟩; refine ⟨_, rfl, ?_⟩; have n0_ := Aside0.mk (Kd.R_mono (Kd.R_keep (IsS42.apart (show IsS42 w _ g102 t107 from by repeat (first | (with_reducible first | exact HI102.out | apply IsS42.alloc | apply IsS42.drewN | apply IsS42.drew | apply IsS42.set_0 | refine IsS42.far ?_ NB102_101.out _ | refine IsS42.far ?_ NB102_103.out _) | exact HI102.out)) (by (with_reducible repeat (first | apply Kd.R_alloc | apply Kd.R_drewN | apply Kd.R_drew)); exact HO_104001.out) (by decide)) hk (fun _ h => h.2)) (fun _ h => h.1)); have n1_ := Aside0.mk (KeepBut.blk hk (g' := gb101) (o := .cells #[.slice none 0 0, .slice none 0 0] 26 (0, 0)) (by (with_reducible repeat (first | refine blk_drewN ?_ _ | refine blk_drew ?_ | refine blk_alloc ?_ _)); exact BK101.out) NB101_102.out (by simp)); have n2_ := Aside0.mk (KeepBut.blk hk (g' := gb103) (o := .cells #[.slice none 0 0, u104001] 26 (0, 0)) (by (with_reducible repeat (first | refine blk_drewN ?_ _ | refine blk_drew ?_ | refine blk_alloc ?_ _)); exact BK103.out) NB103_102.out (by simp)); have n3_ := Aside0.mk (hb); have n4_ := Aside0.mk (hi); clear HO_104001; clear BK101; clear BK103; clear HB; clear HI102; have HO_104001 := n0_; have BK101 := n1_; have BK103 := n2_; have HB := n3_; have HI102 := n4_; clear n0_ n1_ n2_ n3_ n4_; (try clear hb); (try clear hb2); (try clear hk); (try clear hi)) | ((with_reducible refine gate_dst (N := 7) rfl ?_); refine box_event ?hg (N := 7) ?hd (cs := #[.int .i64 0, .int .i64 0, .int .i64 0]) (t := 45) ?hr ?_; (case hd => rfl); (case hg => rfl); (case hr => first | (go_simp; done) | (go_simp; rfl)); intro gb110 hg w51 hbox hb; have n0_ := Aside0.mk (Kd.R_below (Kd.R_elderB (by (with_reducible repeat (first | apply Kd.R_alloc | apply Kd.R_drewN | apply Kd.R_drew)); exact HO_104001.out) gb110 (Nat.le_of_eq hg.symm)) hb); have n1_ := Aside0.mk (blk_below (g := gb101) (o := .cells #[.slice none 0 0, .slice none 0 0] 26 (0, 0)) (by (with_reducible repeat (first | refine blk_drewN ?_ _ | refine blk_drew ?_ | refine blk_alloc ?_ _)); exact BK101.out) hb); have n2_ := Aside0.mk (blk_below (g := gb103) (o := .cells #[.slice none 0 0, u104001] 26 (0, 0)) (by (with_reducible repeat (first | refine blk_drewN ?_ _ | refine blk_drew ?_ | refine blk_alloc ?_ _)); exact BK103.out) hb); have n3_ := Aside0.mk (IsS42.below (by repeat (first | (with_reducible first | exact HI102.out | apply IsS42.alloc | apply IsS42.drewN | apply IsS42.drew | apply IsS42.set_0 | refine IsS42.far ?_ NB102_101.out _ | refine IsS42.far ?_ NB102_103.out _) | exact HI102.out)) hb); have n4_ := Aside0.mk (below_step (by repeat (first | (with_reducible first | exact HB.out | apply below_alloc | apply pw_below_drewN | apply below_drew1 | refine below_set ?_ (IsS42.ge HI102.out) | refine below_set ?_ GE101.out | refine below_set ?_ GE103.out) | exact HB.out)) hb); have n5_ := Aside0.mk (hbox); have n6_ := Aside0.mk ((by rw [hg]; exact (below_size (by repeat (first | (with_reducible first | exact HB.out | apply below_alloc | apply pw_below_drewN | apply below_drew1 | refine below_set ?_ (IsS42.ge HI102.out) | refine below_set ?_ GE101.out | refine below_set ?_ GE103.out) | exact HB.out))) : w.heap.size ≤ gb110)); have n7_ := Aside0.mk ((by rw [hg]; exact (below_size (by repeat (first | (with_reducible first | exact HB.out | apply below_alloc | apply pw_below_drewN | apply below_drew1 | refine below_set ?_ (IsS42.ge HI102.out) | refine below_set ?_ GE101.out | refine below_set ?_ GE103.out) | exact HB.out))) : w.heap.size ≤ gb110)); have n8_ := Aside0.mk ((by rw [hg]; exact Nat.ne_of_lt (blk_lt (g := gb101) (o := .cells #[.slice none 0 0, .slice none 0 0] 26 (0, 0)) (by (with_reducible repeat (first | refine blk_drewN ?_ _ | refine blk_drew ?_ | refine blk_alloc ?_ _)); exact BK101.out)) : gb101 ≠ gb110)); have n9_ := Aside0.mk ((by rw [hg]; exact Nat.ne_of_gt (blk_lt (g := gb101) (o := .cells #[.slice none 0 0, .slice none 0 0] 26 (0, 0)) (by (with_reducible repeat (first | refine blk_drewN ?_ _ | refine blk_drew ?_ | refine blk_alloc ?_ _)); exact BK101.out)) : gb110 ≠ gb101)); have n10_ := Aside0.mk ((by rw [hg]; exact Nat.ne_of_lt (blk_lt (g := gb103) (o := .cells #[.slice none 0 0, u104001] 26 (0, 0)) (by (with_reducible repeat (first | refine blk_drewN ?_ _ | refine blk_drew ?_ | refine blk_alloc ?_ _)); exact BK103.out)) : gb103 ≠ gb110)); have n11_ := Aside0.mk ((by rw [hg]; exact Nat.ne_of_gt (blk_lt (g := gb103) (o := .cells #[.slice none 0 0, u104001] 26 (0, 0)) (by (with_reducible repeat (first | refine blk_drewN ?_ _ | refine blk_drew ?_ | refine blk_alloc ?_ _)); exact BK103.out)) : gb110 ≠ gb103)); have n12_ := Aside0.mk ((by rw [hg]; exact Nat.ne_of_lt (IsS42.lt (show IsS42 w _ g102 t109 from by repeat (first | (with_reducible first | exact HI102.out | apply IsS42.alloc | apply IsS42.drewN | apply IsS42.drew | apply IsS42.set_0 | refine IsS42.far ?_ NB102_101.out _ | refine IsS42.far ?_ NB102_103.out _) | exact HI102.out))) : g102 ≠ gb110)); have n13_ := Aside0.mk ((by rw [hg]; exact Nat.ne_of_gt (IsS42.lt (show IsS42 w _ g102 t109 from by repeat (first | (with_reducible first | exact HI102.out | apply IsS42.alloc | apply IsS42.drewN | apply IsS42.drew | apply IsS42.set_0 | refine IsS42.far ?_ NB102_101.out _ | refine IsS42.far ?_ NB102_103.out _) | exact HI102.out))) : gb110 ≠ g102)); clear HO_104001; clear BK101; clear BK103; clear HI102; clear HB; have HO_104001 := n0_; have BK101 := n1_; have BK103 := n2_; have HI102 := n3_; have HB := n4_; have BK110 := n5_; have GW110 := n6_; have GE110 := n7_; have NB101_110 := n8_; have NB110_101 := n9_; have NB103_110 := n10_; have NB110_103 := n11_; have NB102_110 := n12_; have NB110_102 := n13_; clear n0_ n1_ n2_ n3_ n4_ n5_ n6_ n7_ n8_ n9_ n10_ n11_ n12_ n13_; clear hb hbox hg; have hnb52 := NB110_101.out; have hnc52 := NB101_110.out; have hnb53 := NB110_103.out; have hnc53 := NB103_110.out; have hnb54 := NB110_102.out; have hnc54 := NB102_110.out; have hcz55_0 : w51.cell? ⟨gb110, 0, none⟩ = some (.int .i64 0) := (blk_cell BK110.out 0).trans rfl; have hcz55_1 : w51.cell? ⟨gb110, 1, none⟩ = some (.int .i64 0) := (blk_cell BK110.out 1).trans rfl; have hcz55_2 : w51.cell? ⟨gb110, 2, none⟩ = some (.int .i64 0) := (blk_cell BK110.out 2).trans rfl; have hfz55_0 := blk_frozen BK110.out 0; have hfz55_1 := blk_frozen BK110.out 1; have hfz55_2 := blk_frozen BK110.out 2; have hnb56 := NB103_101.out; have hnc56 := NB101_103.out; have hnb57 := NB103_102.out; have hnc57 := NB102_103.out; have hcz58_0 : w51.cell? ⟨gb103, 0, none⟩ = some (.slice none 0 0) := (blk_cell BK103.out 0).trans rfl; have hcz58_1 : w51.cell? ⟨gb103, 1, none⟩ = some (u104001) := (blk_cell BK103.out 1).trans rfl; have hfz58_0 := blk_frozen BK103.out 0; have hfz58_1 := blk_frozen BK103.out 1) | ((with_reducible refine gate_builtin (b := .append) (xs := #[.tmp 42, .tmp 44]) rfl ?_); at_builtin; refine Kd.R_append k45 (w0 := w) w.heap.size rfl (.tmp 42) (.tmp 44) 24 45 (.agg #[(.int .i64 0), (.int .i64 0), (.int .i64 0)]) 24 rfl Tryd.underlying24 info45 rfl (by decide) (by omega) u104001 x104001_1 (⟨x16_1, wrap64 (1 + t108), 0⟩ : S45) [.int .i64 x16_1, .int .i64 (wrap64 (1 + t108)), .int .i64 0] (fun k_ => k_ ≠ gb110) (fun _ => False) rfl (by first | (go_simp; done) | (go_simp; rfl)) ?aP (fun _ hk => hk.elim) ?aF ?aO ?aB ?aS ?aL ?_; (case aP => exact k45_mkM _ _ _ (⟨x16_1, wrap64 (1 + t108), 0⟩ : S45)); (case aB => exact (by repeat (first | (with_reducible first | exact HB.out | apply below_alloc | apply pw_below_drewN | apply below_drew1 | refine below_set ?_ (IsS42.ge HI102.out) | refine below_set ?_ GE101.out | refine below_set ?_ GE103.out | refine below_set ?_ GE110.out) | exact HB.out))); (case aF => exact (fun k_ hk => Kd.freshB (g := gb110) (o := .cells #[.int .i64 x16_1, .int .i64 (wrap64 (1 + t108)), .int .i64 0] 45 (0, 0)) (by (with_reducible repeat (first | refine blk_drewN ?_ _ | refine blk_drew ?_ | refine blk_alloc ?_ _)); refine blk_put (cs := #[.int .i64 x16_1, .int .i64 (wrap64 (1 + t108)), .int .i64 0]) ?_ 2 _ rfl; (with_reducible repeat (first | refine blk_drewN ?_ _ | refine blk_drew ?_ | refine blk_alloc ?_ _)); refine blk_put (cs := #[.int .i64 x16_1, .int .i64 0, .int .i64 0]) ?_ 1 _ rfl; (with_reducible repeat (first | refine blk_drewN ?_ _ | refine blk_drew ?_ | refine blk_alloc ?_ _)); refine blk_put (cs := #[.int .i64 0, .int .i64 0, .int .i64 0]) ?_ 0 _ rfl; (with_reducible repeat (first | refine blk_drewN ?_ _ | refine blk_drew ?_ | refine blk_alloc ?_ _)); exact BK110.out) k_ hk)); (case aO => exact (by (with_reducible repeat (first | apply Kd.R_alloc | apply Kd.R_drewN | apply Kd.R_drew)); exact Kd.R_mono (Kd.R_far (p := ⟨gb110, 2, none⟩) (Kd.R_far (p := ⟨gb110, 1, none⟩) (Kd.R_far (p := ⟨gb110, 0, none⟩) (Kd.R_mono HO_104001.out (fun k_ hk => (⟨hk, hk.2⟩ : _ ∧ k_ ≠ gb110))) (fun _ hk => hk.2) (.int .i64 x16_1)) (fun _ hk => hk.2) (.int .i64 (wrap64 (1 + t108)))) (fun _ hk => hk.2) (.int .i64 0)) (fun _ hk => hk.1.2))); (case aS => exact (below_size (by repeat (first | (with_reducible first | exact HB.out | apply below_alloc | apply pw_below_drewN | apply below_drew1 | refine below_set ?_ (IsS42.ge HI102.out) | refine below_set ?_ GE101.out | refine below_set ?_ GE103.out | refine below_set ?_ GE110.out) | exact HB.out)))); (case aL => have := LMc48.out; omega); intro v122 w59 ho hb hg hat; rw [← Ny121.out] at ho; have n0_ := Aside0.mk (blk_grown (g := gb101) (o := .cells #[.slice none 0 0, .slice none 0 0] 26 (0, 0)) (by (with_reducible repeat (first | refine blk_drewN ?_ _ | refine blk_drew ?_ | refine blk_alloc ?_ _)); refine blk_far ?_ NB101_110.out _; (with_reducible repeat (first | refine blk_drewN ?_ _ | refine blk_drew ?_ | refine blk_alloc ?_ _)); refine blk_far ?_ NB101_110.out _; (with_reducible repeat (first | refine blk_drewN ?_ _ | refine blk_drew ?_ | refine blk_alloc ?_ _)); refine blk_far ?_ NB101_110.out _; (with_reducible repeat (first | refine blk_drewN ?_ _ | refine blk_drew ?_ | refine blk_alloc ?_ _)); exact BK101.out) hg (Kd.R_ne HO_104001.out BK101.out (by decide))); have n1_ := Aside0.mk (blk_grown (g := gb103) (o := .cells #[.slice none 0 0, u104001] 26 (0, 0)) (by (with_reducible repeat (first | refine blk_drewN ?_ _ | refine blk_drew ?_ | refine blk_alloc ?_ _)); refine blk_far ?_ NB103_110.out _; (with_reducible repeat (first | refine blk_drewN ?_ _ | refine blk_drew ?_ | refine blk_alloc ?_ _)); refine blk_far ?_ NB103_110.out _; (with_reducible repeat (first | refine blk_drewN ?_ _ | refine blk_drew ?_ | refine blk_alloc ?_ _)); refine blk_far ?_ NB103_110.out _; (with_reducible repeat (first | refine blk_drewN ?_ _ | refine blk_drew ?_ | refine blk_alloc ?_ _)); exact BK103.out) hg (Kd.R_ne HO_104001.out BK103.out (by decide))); have n2_ := Aside0.mk (IsS42.grown (show IsS42 w _ g102 t109 from by repeat (first | (with_reducible first | exact HI102.out | apply IsS42.alloc | apply IsS42.drewN | apply IsS42.drew | apply IsS42.set_0 | refine IsS42.far ?_ NB102_101.out _ | refine IsS42.far ?_ NB102_103.out _ | refine IsS42.far ?_ NB102_110.out _) | exact HI102.out)) hg (IsS42.own_ne HI102.out HO_104001.out (by decide))); have n3_ := Aside0.mk (blk_grown (g := gb110) (o := .cells #[.int .i64 x16_1, .int .i64 (wrap64 (1 + t108)), .int .i64 0] 45 (0, 0)) (by (with_reducible repeat (first | refine blk_drewN ?_ _ | refine blk_drew ?_ | refine blk_alloc ?_ _)); refine blk_put (cs := #[.int .i64 x16_1, .int .i64 (wrap64 (1 + t108)), .int .i64 0]) ?_ 2 _ rfl; (with_reducible repeat (first | refine blk_drewN ?_ _ | refine blk_drew ?_ | refine blk_alloc ?_ _)); refine blk_put (cs := #[.int .i64 x16_1, .int .i64 0, .int .i64 0]) ?_ 1 _ rfl; (with_reducible repeat (first | refine blk_drewN ?_ _ | refine blk_drew ?_ | refine blk_alloc ?_ _)); refine blk_put (cs := #[.int .i64 0, .int .i64 0, .int .i64 0]) ?_ 0 _ rfl; (with_reducible repeat (first | refine blk_drewN ?_ _ | refine blk_drew ?_ | refine blk_alloc ?_ _)); exact BK110.out) hg (Kd.R_away HO_104001.out (fun _ hk => hk.2))); have n4_ := Aside0.mk (hb); have n5_ := Aside0.mk (ho); clear BK101; clear BK103; clear HI102; clear BK110; clear HB; clear HO_104001; have BK101 := n0_; have BK103 := n1_; have HI102 := n2_; have BK110 := n3_; have HB := n4_; have HO123 := n5_; clear n0_ n1_ n2_ n3_ n4_ n5_; clear ho hb hg hat; obtain ⟨Ao60, co60, eo60⟩ := Kd.R_slice HO123.out; subst eo60; have hcz61_0 : w59.cell? ⟨gb103, 0, none⟩ = some (.slice none 0 0) := (blk_cell BK103.out 0).trans rfl; have hcz61_1 : w59.cell? ⟨gb103, 1, none⟩ = some (u104001) := (blk_cell BK103.out 1).trans rfl; have hfz61_0 := blk_frozen BK103.out 0; have hfz61_1 := blk_frozen BK103.out 1))
                go_roundg k1
                case measure => have := HK1.out; omega
                case rel => exact ⟨(wrap64 (x16_1 + 1)), (t109), (y121), (.slice Ao60 y121.length co60), (by first | rfl | (simp; done) | (simp [*]; done)), H', ⟨by have := HK1.out; omega⟩, ⟨by (with_reducible repeat (first | apply Kd.R_alloc | apply Kd.R_drewN | apply Kd.R_drew)); exact Kd.R_mono (Kd.R_far (p := ⟨gb103, 1, none⟩) (Kd.R_types HO123.out BK103.out (by decide)) (fun _ hk => hk.2) (.slice Ao60 y121.length co60)) (fun _ hk => trivial)⟩, ⟨by (with_reducible repeat (first | refine blk_drewN ?_ _ | refine blk_drew ?_ | refine blk_alloc ?_ _)); refine blk_far ?_ NB101_103.out _; (with_reducible repeat (first | refine blk_drewN ?_ _ | refine blk_drew ?_ | refine blk_alloc ?_ _)); exact BK101.out⟩, ⟨by (with_reducible repeat (first | refine blk_drewN ?_ _ | refine blk_drew ?_ | refine blk_alloc ?_ _)); refine blk_put (cs := #[.slice none 0 0, u104001]) ?_ 1 _ rfl; (with_reducible repeat (first | refine blk_drewN ?_ _ | refine blk_drew ?_ | refine blk_alloc ?_ _)); exact BK103.out⟩, ⟨by repeat (first | (with_reducible first | exact HI102.out | apply IsS42.alloc | apply IsS42.drewN | apply IsS42.drew | apply IsS42.set_0 | refine IsS42.far ?_ NB102_101.out _ | refine IsS42.far ?_ NB102_103.out _ | refine IsS42.far ?_ NB102_110.out _) | exact HI102.out)⟩, ⟨by repeat (first | (with_reducible first | exact HB.out | apply below_alloc | apply pw_below_drewN | apply below_drew1 | refine below_set ?_ (IsS42.ge HI102.out) | refine below_set ?_ GE101.out | refine below_set ?_ GE103.out | refine below_set ?_ GE110.out) | exact HB.out)⟩⟩
              · rw [if_neg c48] at H
                exact absurd H (by simp)
      · rw [if_neg c7] at H
        have c7b0 : decide (x16_1 < (wrap64 (1 + t104))) = false := decide_eq_false c7
        clear c7
        obtain ⟨ji62, hji62⟩ : ∃ j_ : Int, (wrap64 ((wrap64 (1 + t104)) * 64)) = j_ := ⟨_, rfl⟩
        replace H : (if 0 ≤ (ji62) then (if (ji62 : Int).toNat ≤ 281474976710656 then ((some (List.replicate (ji62 : Int).toNat 0 : List Int)).bind fun y124 => (wrackmake_Drive.l1 k1 (y124.length : Int) 0 x103000_1 y124 x104001_1)) else (none)) else (none)) = some (r1, r2) := by first | (rw [hji62] at H; exact H) | (simp only [hji62] at H ⊢; exact H)
        have hji62w : (IntKind.i64.wrap ((wrap64 (1 + t104)) * 64)) = ji62 := (i64_w _).trans hji62
        by_cases c63 : 0 ≤ (ji62)
        · rw [if_pos c63] at H
          have c63b0 := eq_true c63
          have c63b1 : decide (0 ≤ (ji62)) = true := decide_eq_true c63
          clear c63
          by_cases c64 : (ji62 : Int).toNat ≤ 281474976710656
          · rw [if_pos c64] at H
            have c64b0 := eq_true c64
            have c64b1 : decide ((ji62 : Int).toNat ≤ 281474976710656) = true := decide_eq_true c64
            clear c64
            obtain ⟨y124, hy124⟩ : ∃ y_ : List Int, y_ = (List.replicate (ji62 : Int).toNat 0) := ⟨_, rfl⟩
            replace H : (wrackmake_Drive.l1 k1 (y124.length : Int) 0 x103000_1 y124 x104001_1) = some (r1, r2) := by first | (rw [hy124]; with_reducible exact H) | (have H2_ := (Option.bind_some _ _).symm.trans H; rw [hy124]; with_reducible exact H2_) | (have H2_ := (Option.bind_some _ _).symm.trans H; with_reducible exact H2_) | with_reducible exact H | (rw [hy124]; exact H) | exact H
            have Ny124 := Aside0.mk hy124
            clear hy124
            have H' := Aside0.mk H
            clear H
            go_wp2_with (first | ((with_reducible refine gate_dst (N := 50) rfl ?_); refine Kd.R_make (Kd.int .u8) _ 5 rfl (N := 50) rfl 23 _ _ rfl ji62 rfl rfl Tryd.underlying23 (.int .u8 0) 1 info5 rfl (by decide) (by omega) 0 (ok := fun _ => True) (okp := fun _ => True) rfl (fun _ hk => hk) trivial (of_decide_eq_true (by first | (with_reducible assumption) | assumption)) (Nat.le_trans (Nat.mul_le_mul_right _ (of_decide_eq_true (by first | (with_reducible assumption) | assumption) : ji62.toNat ≤ 281474976710656)) (by omega)) (Below.refl _ _) (Nat.le_refl _) ?_; intro v125 w65 ho66 hb hg_ hnew_; clear hg_ hnew_; (first | rw [← Ny124.out] at ho66 | (simp only [Int.reduceToNat] at ho66; rw [← Ny124.out] at ho66)); have n0_ := Aside0.mk (Kd.R_below (by (with_reducible repeat (first | apply Kd.R_alloc | apply Kd.R_drewN | apply Kd.R_drew)); exact HO_104001.out) hb); have n1_ := Aside0.mk (Kd.R_lower ho66 (below_size (by repeat (first | (with_reducible first | exact HB.out | apply below_alloc | apply pw_below_drewN | apply below_drew1 | refine below_set ?_ (IsS42.ge HI102.out) | refine below_set ?_ GE101.out | refine below_set ?_ GE103.out) | exact HB.out)))); have n2_ := Aside0.mk (blk_below (g := gb101) (o := .cells #[.slice none 0 0, .slice none 0 0] 26 (0, 0)) (by (with_reducible repeat (first | refine blk_drewN ?_ _ | refine blk_drew ?_ | refine blk_alloc ?_ _)); exact BK101.out) hb); have n3_ := Aside0.mk (blk_below (g := gb103) (o := .cells #[.slice none 0 0, u104001] 26 (0, 0)) (by (with_reducible repeat (first | refine blk_drewN ?_ _ | refine blk_drew ?_ | refine blk_alloc ?_ _)); exact BK103.out) hb); have n4_ := Aside0.mk (IsS42.below (by repeat (first | (with_reducible first | exact HI102.out | apply IsS42.alloc | apply IsS42.drewN | apply IsS42.drew | apply IsS42.set_0 | refine IsS42.far ?_ NB102_101.out _ | refine IsS42.far ?_ NB102_103.out _) | exact HI102.out)) hb); have n5_ := Aside0.mk (below_step (by repeat (first | (with_reducible first | exact HB.out | apply below_alloc | apply pw_below_drewN | apply below_drew1 | refine below_set ?_ (IsS42.ge HI102.out) | refine below_set ?_ GE101.out | refine below_set ?_ GE103.out) | exact HB.out)) hb); clear HO_104001; clear BK101; clear BK103; clear HI102; clear HB; have HO_104001 := n0_; have HO126 := n1_; have BK101 := n2_; have BK103 := n3_; have HI102 := n4_; have HB := n5_; clear n0_ n1_ n2_ n3_ n4_ n5_; clear hb ho66; obtain ⟨Ao67, co67, eo67⟩ := Kd.R_slice HO126.out; subst eo67; have hnb68 := NB103_101.out; have hnc68 := NB101_103.out; have hnb69 := NB103_102.out; have hnc69 := NB102_103.out; have hcz70_0 : w65.cell? ⟨gb103, 0, none⟩ = some (.slice none 0 0) := (blk_cell BK103.out 0).trans rfl; have hcz70_1 : w65.cell? ⟨gb103, 1, none⟩ = some (u104001) := (blk_cell BK103.out 1).trans rfl; have hfz70_0 := blk_frozen BK103.out 0; have hfz70_1 := blk_frozen BK103.out 1))
            go_loopg [55] k1 (fun kq v55 w' => ∃ (x55_2 : Int) (x103000_2 : List Int) (x104000_2 : List Int) (u104000 : Value), v55 = .int .i64 x55_2 ∧ Aside0 (wrackmake_Drive.l1 kq (y124.length : Int) x55_2 x103000_2 x104000_2 x104001_1 = some (r1, r2)) ∧ Aside0 (kq ≤ k1) ∧ Aside0 (Kd.R (Kd.int .u8) 5 w' w.heap.size (fun _ => True) u104000 x104000_2) ∧ Aside0 (Kd.R k45 45 w' w.heap.size (fun _ => True) u104001 x104001_1) ∧ Aside0 (w'.heap[gb101]? = some (.cells #[(.slice none 0 0), (.slice none 0 0)] 26 (0, 0))) ∧ Aside0 (w'.heap[gb103]? = some (.cells #[u104000, u104001] 26 (0, 0))) ∧ Aside0 (IsS42 w w' g102 x103000_2) ∧ Aside0 (Below w.heap.size w w'))
            case atStart => exact ⟨(0), (x103000_1), (y124), (.slice Ao67 y124.length co67), (by first | rfl | (simp; done) | (simp [*]; done)), H', ⟨Nat.le_refl _⟩, ⟨by (with_reducible repeat (first | apply Kd.R_alloc | apply Kd.R_drewN | apply Kd.R_drew)); exact Kd.R_mono (Kd.R_far (p := ⟨gb103, 0, none⟩) (Kd.R_types HO126.out BK103.out (by decide)) (fun _ hk => hk.2) (.slice Ao67 y124.length co67)) (fun _ hk => trivial)⟩, ⟨by (with_reducible repeat (first | apply Kd.R_alloc | apply Kd.R_drewN | apply Kd.R_drew)); exact Kd.R_mono (Kd.R_far (p := ⟨gb103, 0, none⟩) (Kd.R_types HO_104001.out BK103.out (by decide)) (fun _ hk => hk.2) (.slice Ao67 y124.length co67)) (fun _ hk => trivial)⟩, ⟨by (with_reducible repeat (first | refine blk_drewN ?_ _ | refine blk_drew ?_ | refine blk_alloc ?_ _)); refine blk_far ?_ NB101_103.out _; (with_reducible repeat (first | refine blk_drewN ?_ _ | refine blk_drew ?_ | refine blk_alloc ?_ _)); exact BK101.out⟩, ⟨by (with_reducible repeat (first | refine blk_drewN ?_ _ | refine blk_drew ?_ | refine blk_alloc ?_ _)); refine blk_put (cs := #[.slice none 0 0, u104001]) ?_ 0 _ rfl; (with_reducible repeat (first | refine blk_drewN ?_ _ | refine blk_drew ?_ | refine blk_alloc ?_ _)); exact BK103.out⟩, ⟨by repeat (first | (with_reducible first | exact HI102.out | apply IsS42.alloc | apply IsS42.drewN | apply IsS42.drew | apply IsS42.set_0 | refine IsS42.far ?_ NB102_101.out _ | refine IsS42.far ?_ NB102_103.out _) | exact HI102.out)⟩, ⟨by repeat (first | (with_reducible first | exact HB.out | apply below_alloc | apply pw_below_drewN | apply below_drew1 | refine below_set ?_ (IsS42.ge HI102.out) | refine below_set ?_ GE101.out | refine below_set ?_ GE103.out) | exact HB.out)⟩⟩
            case round =>
              clear H'
              try clear c1
              try clear c2
              try clear p2
              try clear c3
              try clear c4
              try clear c5
              try clear c6
              try clear p6
              try clear c7
              try clear c7b0
              try clear c9
              try clear c9b0
              try clear c12
              try clear c12b0
              try clear c12b1
              try clear c14
              try clear c18
              try clear c19
              try clear c20
              try clear c24
              try clear c25
              try clear c30
              try clear c30b0
              try clear c30b1
              try clear c32
              try clear c36
              try clear c37
              try clear c38
              try clear c42
              try clear c43
              try clear c48
              try clear c52
              try clear c53
              try clear c54
              try clear c56
              try clear c57
              try clear c63
              try clear c63b0
              try clear c63b1
              try clear c64
              try clear c64b0
              try clear c64b1
              try clear p64
              try clear c68
              try clear c69
              try clear hcz21_0
              try clear hcz21_1
              try clear hcz21_2
              try clear hcz23_0
              try clear hcz23_1
              try clear hcz23_2
              try clear hcz26_0
              try clear hcz26_1
              try clear hcz29_0
              try clear hcz29_1
              try clear hcz39_0
              try clear hcz39_1
              try clear hcz39_2
              try clear hcz41_0
              try clear hcz41_1
              try clear hcz41_2
              try clear hcz44_0
              try clear hcz44_1
              try clear hcz47_0
              try clear hcz47_1
              try clear hcz55_0
              try clear hcz55_1
              try clear hcz55_2
              try clear hcz58_0
              try clear hcz58_1
              try clear hcz61_0
              try clear hcz61_1
              try clear hcz70_0
              try clear hcz70_1
              try clear hfz21_0
              try clear hfz21_1
              try clear hfz21_2
              try clear hfz23_0
              try clear hfz23_1
              try clear hfz23_2
              try clear hfz26_0
              try clear hfz26_1
              try clear hfz29_0
              try clear hfz29_1
              try clear hfz39_0
              try clear hfz39_1
              try clear hfz39_2
              try clear hfz41_0
              try clear hfz41_1
              try clear hfz41_2
              try clear hfz44_0
              try clear hfz44_1
              try clear hfz47_0
              try clear hfz47_1
              try clear hfz55_0
              try clear hfz55_1
              try clear hfz55_2
              try clear hfz58_0
              try clear hfz58_1
              try clear hfz61_0
              try clear hfz61_1
              try clear hfz70_0
              try clear hfz70_1
              try clear p2
              try clear p6
              obtain ⟨x55_2, x103000_2, x104000_2, u104000, rfl, HA, HK2, HO_104000, HO_104001, BK101, BK103, HI102, HB⟩ := hrel
              cases gk with
              | zero => exact absurd HA.out (by simp [wrackmake_Drive.l1])
              | succ k2 =>
                have H := HA.out
                clear HA
                simp only [wrackmake_Drive.l1] at H
                by_cases c71 : x55_2 < (y124.length : Int)
                · rw [if_pos c71] at H
                  have c71b0 : decide (x55_2 < (y124.length : Int)) = true := decide_eq_true c71
                  clear c71
                  by_cases c72 : (x103000_2.length : Int) > 0
                  · rw [if_pos c72] at H
                    have c72b0 : decide (0 < (x103000_2.length : Int)) = true := decide_eq_true c72
                    have c72b1 : decide (0 < x103000_2.length) = true := decide_eq_true (by omega)
                    clear c72
                    replace H := Option.bind_eq_some_iff.mp H
                    obtain ⟨⟨t127, t128⟩, A730, H⟩ := H
                    replace H : (if 0 ≤ x55_2 then (if x55_2 < (x104000_2.length : Int) then (wrackmake_Drive.l1 k2 (y124.length : Int) (wrap64 (x55_2 + 1)) t128 (x104000_2.set (x55_2 : Int).toNat ((t127) % 256)) x104001_1) else (none)) else (none)) = some (r1, r2) := H
                    have A73 := Aside0.mk A730
                    clear A730
                    by_cases c74 : 0 ≤ x55_2
                    · rw [if_pos c74] at H
                      have c74b0 : decide (0 ≤ x55_2) = true := decide_eq_true c74
                      clear c74
                      by_cases c75 : x55_2 < (x104000_2.length : Int)
                      · rw [if_pos c75] at H
                        have c75b0 : decide (x55_2 < (x104000_2.length : Int)) = true := decide_eq_true c75
                        clear c75
                        obtain ⟨y129, hy129⟩ : ∃ y_ : List Int, y_ = (x104000_2.set (x55_2 : Int).toNat ((t127) % 256)) := ⟨_, rfl⟩
                        replace H : (wrackmake_Drive.l1 k2 (y124.length : Int) (wrap64 (x55_2 + 1)) t128 y129 x104001_1) = some (r1, r2) := by first | (rw [hy129]; with_reducible exact H) | (have H2_ := (Option.bind_some _ _).symm.trans H; rw [hy129]; with_reducible exact H2_) | (have H2_ := (Option.bind_some _ _).symm.trans H; with_reducible exact H2_) | with_reducible exact H | (rw [hy129]; exact H) | exact H
                        have Ny129 := Aside0.mk hy129
                        clear hy129
                        have H' := Aside0.mk H
                        clear H
                        obtain ⟨ASz77_0, cSz77_0, HGz77, hgz77, HSz77_0, hLSz77_0⟩ := HI102.out
                        have hcz77_0 := cellS42_0 HGz77
                        have hfz77_0 := blk_frozen HGz77 0
                        clear HGz77 hgz77
                        clear hLSz77_0
                        try go_wp2
                        have n0_ := Aside0.mk (Kd.R_drew HO_104000.out)
                        have n1_ := Aside0.mk (Kd.R_drew HO_104001.out)
                        have n2_ := Aside0.mk (blk_drew BK101.out)
                        have n3_ := Aside0.mk (blk_drew BK103.out)
                        have n4_ := Aside0.mk (IsS42.drew HI102.out)
                        have n5_ := Aside0.mk (below_drew1 HB.out)
                        clear HO_104000
                        clear HO_104001
                        clear BK101
                        clear BK103
                        clear HI102
                        clear HB
                        have HO_104000 := n0_
                        have HO_104001 := n1_
                        have BK101 := n2_
                        have BK103 := n3_
                        have HI102 := n4_
                        have HB := n5_
                        clear n0_ n1_ n2_ n3_ n4_ n5_
                        refine start_ (n := 8) (S := fun w' => w'.cell? ⟨gb103, 0, none⟩ = some (u104000) ∧ w'.cell? ⟨gb103, 1, none⟩ = some (u104001)) (ds := [7]) #[false, false, false, false, false, false, false, false] (by kernel_rfl) rfl rfl ⟨(blk_cell BK103.out 0).trans rfl, (blk_cell BK103.out 1).trans rfl⟩ (fun hHeld => ?_); refine with_tabW wrackmake_Drive.tab21 wrackmake_Drive.bits21 (fun HT_ HW_ => ?_)
                        generalize wr.drew = w78 at HO_104000 HO_104001 BK101 BK103 HI102 HB hHeld ⊢
                        refine pure_ (i := 0) (N := some 64) (v := ?_) (a' := ?_) #[true, false, false, false, false, false, false, false] rfl rfl (any_of HT_.out (by kernel_rfl)) (fun _ _ _ h => h) (Or.inl ⟨by rfl, ?_⟩) ?_ ?_
                        rotate_left
                        · intro w'
                          go_simp
                          with_reducible rfl
                        rotate_left
                        · simp only [Act.put, List.setIfInBounds_toArray, List.set_cons_zero, List.set_cons_succ, i64_w, i32_w]
                          rfl
                        refine pure_ (i := 2) (N := some 66) (v := ?_) (a' := ?_) #[true, false, true, false, false, false, false, false] rfl rfl (any_of HT_.out (by kernel_rfl)) (fun _ _ _ h => h) (Or.inl ⟨by rfl, ?_⟩) ?_ ?_
                        rotate_left
                        · intro w'
                          go_simp
                          with_reducible rfl
                        rotate_left
                        · simp only [Act.put, List.setIfInBounds_toArray, List.set_cons_zero, List.set_cons_succ, i64_w, i32_w]
                          rfl
                        refine pure_ (i := 3) (N := some 67) (v := ?_) (a' := ?_) #[true, false, true, true, false, false, false, false] rfl rfl (any_of HT_.out (by kernel_rfl)) (fun _ _ _ h => h) (Or.inl ⟨by rfl, ?_⟩) ?_ ?_
                        rotate_left
                        · intro w'
                          go_simp
                          with_reducible rfl
                        rotate_left
                        · simp only [Act.put, List.setIfInBounds_toArray, List.set_cons_zero, List.set_cons_succ, i64_w, i32_w]
                          rfl
                        refine take_ (i := 1) (N := some 65) (v := ?_) (a' := ?_) #[true, true, true, true, false, false, false, false] rfl rfl (take_ofW HT_.out HW_.out (by kernel_rfl)) (fun _ _ _ h => h) (Or.inl ⟨by rfl, ?_⟩) hHeld ?_ ?_
                        rotate_left
                        · rintro w' ⟨s0, s1⟩
                          go_simp
                          with_reducible rfl
                        rotate_left
                        · simp only [Act.put, List.setIfInBounds_toArray, List.set_cons_zero, List.set_cons_succ, i64_w, i32_w]
                          rfl
                        refine one_ (i := 4) (N := some 68) #[true, true, true, true, true, false, false, false] rfl rfl (one_of HT_.out (by kernel_rfl)) (by decide) (fun K hK => ?_)
                        refine goes_ Tryd.func12 (by kernel_rfl) rfl #[.pointer (some ⟨g102, 0, none⟩), .int .i64 256] (by rfl) rfl rfl (by (try simp only [List.map_toArray, List.map_cons, List.map_nil]); first | done | rfl | (simp only [List.length_drop, List.length_take]; rfl)) ?_
                        with_reducible refine (wrackmake_Stream_Next.calls g102 x103000_2 256 t127 t128 w _ ?side1 ?side2 A73.out).mono ?_
                        (case side1 => repeat (first | (with_reducible first | exact HI102.out | apply IsS42.alloc | apply IsS42.drewN | apply IsS42.drew | apply IsS42.set_0 | refine IsS42.far ?_ NB102_101.out _ | refine IsS42.far ?_ NB102_103.out _) | exact HI102.out))
                        (case side2 => repeat (first | (with_reducible first | exact HB.out | apply below_alloc | apply pw_below_drewN | apply below_drew1 | refine below_set ?_ (IsS42.ge HI102.out) | refine below_set ?_ GE101.out | refine below_set ?_ GE103.out) | exact HB.out))
                        rintro e w79 ⟨rfl, hi, hb, hk⟩
                        refine ⟨_, rfl, ?_⟩
                        have n0_ := Aside0.mk (Kd.R_mono (Kd.R_keep (IsS42.apart (show IsS42 w _ g102 x103000_2 from by repeat (first | (with_reducible first | exact HI102.out | apply IsS42.alloc | apply IsS42.drewN | apply IsS42.drew | apply IsS42.set_0 | refine IsS42.far ?_ NB102_101.out _ | refine IsS42.far ?_ NB102_103.out _) | exact HI102.out)) (by (with_reducible repeat (first | apply Kd.R_alloc | apply Kd.R_drewN | apply Kd.R_drew)); exact HO_104000.out) (by decide)) hk (fun _ h => h.2)) (fun _ h => h.1))
                        have n1_ := Aside0.mk (Kd.R_mono (Kd.R_keep (IsS42.apart (show IsS42 w _ g102 x103000_2 from by repeat (first | (with_reducible first | exact HI102.out | apply IsS42.alloc | apply IsS42.drewN | apply IsS42.drew | apply IsS42.set_0 | refine IsS42.far ?_ NB102_101.out _ | refine IsS42.far ?_ NB102_103.out _) | exact HI102.out)) (by (with_reducible repeat (first | apply Kd.R_alloc | apply Kd.R_drewN | apply Kd.R_drew)); exact HO_104001.out) (by decide)) hk (fun _ h => h.2)) (fun _ h => h.1))
                        have n2_ := Aside0.mk (KeepBut.blk hk (g' := gb101) (o := .cells #[.slice none 0 0, .slice none 0 0] 26 (0, 0)) (by (with_reducible repeat (first | refine blk_drewN ?_ _ | refine blk_drew ?_ | refine blk_alloc ?_ _)); exact BK101.out) NB101_102.out (by simp))
                        have n3_ := Aside0.mk (KeepBut.blk hk (g' := gb103) (o := .cells #[u104000, u104001] 26 (0, 0)) (by (with_reducible repeat (first | refine blk_drewN ?_ _ | refine blk_drew ?_ | refine blk_alloc ?_ _)); exact BK103.out) NB103_102.out (by simp))
                        have n4_ := Aside0.mk (hb)
                        have n5_ := Aside0.mk (hi)
                        clear HO_104000
                        clear HO_104001
                        clear BK101
                        clear BK103
                        clear HB
                        clear HI102
                        have HO_104000 := n0_
                        have HO_104001 := n1_
                        have BK101 := n2_
                        have BK103 := n3_
                        have HB := n4_
                        have HI102 := n5_
                        clear n0_ n1_ n2_ n3_ n4_ n5_
                        (try clear hb)
                        (try clear hb2)
                        (try clear hk)
                        (try clear hi)
                        have p76 : 0 ≤ (x55_2 : Int) := of_decide_eq_true (by first | (with_reducible assumption) | assumption)
                        have q76 : (x55_2 : Int) < ((x104000_2.length : Int) : Int) := of_decide_eq_true (by first | (with_reducible assumption) | assumption)
                        obtain ⟨go76, co76, eo76, gb76, gl76, cl76, HG76⟩ := Kd.R_form HO_104000.out (by omega)
                        (first | cases eo76 | (injection eo76 with ea_ en_ ec_; (first | subst ea_ | (injection ea_ with ea_; subst ea_)); subst ec_; clear en_))
                        have GB76 := Aside0.mk gb76
                        have GG76 := Aside0.mk HG76
                        clear gb76 gl76 HG76
                        obtain ⟨hx76_0, hf76_0⟩ := Kd.R_celln 0 HO_104000.out (x55_2 : Int) p76 q76
                        replace p76 := eq_true p76
                        replace q76 := eq_true q76
                        have HN102_go76 := Aside0.mk (show g102 ≠ go76 from by have h_ := IsS42.own_ne HI102.out HO_104000.out (by decide); intro e_; exact h_ (by rw [e_]; rfl))
                        have HP80 := Kd.R_putn HO_104000.out (x55_2 : Int) ((t127) % 256)
                        rw [← Ny129.out] at HP80
                        have HQ80 := Aside0.mk HP80
                        clear HP80
                        refine hK.out _ _ ⟨(blk_cell BK103.out 0).trans rfl, (blk_cell BK103.out 1).trans rfl⟩ (fun hHeld => ?_)
                        clear hK K
                        refine norm_ (a' := ?_) ?_ ?_
                        rotate_left
                        · show Act.put _ (some 68) _ = _
                          simp only [Act.put, List.setIfInBounds_toArray, List.set_cons_zero, List.set_cons_succ, i64_w, i32_w]
                          rfl
                        refine pure_ (i := 5) (N := some 69) (v := ?_) (a' := ?_) #[true, true, true, true, true, true, false, false] rfl rfl (any_of HT_.out (by kernel_rfl)) (fun _ _ _ h => h) (Or.inl ⟨by rfl, ?_⟩) ?_ ?_
                        rotate_left
                        · intro w'
                          go_simp
                          with_reducible rfl
                        rotate_left
                        · simp only [Act.put, List.setIfInBounds_toArray, List.set_cons_zero, List.set_cons_succ, i64_w, i32_w]
                          rfl
                        refine pure_ (i := 6) (N := some 70) (v := ?_) (a' := ?_) #[true, true, true, true, true, true, true, false] rfl rfl (any_of HT_.out (by kernel_rfl)) (fun _ _ _ h => h) (Or.inl ⟨by rfl, ?_⟩) ?_ ?_
                        rotate_left
                        · intro w'
                          go_simp
                          with_reducible rfl
                        rotate_left
                        · simp only [Act.put, List.setIfInBounds_toArray, List.set_cons_zero, List.set_cons_succ, i64_w, i32_w]
                          rfl
                        refine last_ (i := 7) (N := none) #[true, true, true, true, true, true, true, true] rfl rfl (one_of HT_.out (by kernel_rfl)) (by decide) (fun K hK => ?_)
                        refine skip_ (w1 := ?_) (by rfl) rfl ?_ ?_
                        rotate_left
                        · go_simp
                          rfl
                        refine hK.out _ _ ?_
                        clear hK K
                        refine done_ (done_of HT_.out (by kernel_rfl)) ?_
                        try go_wp2
                        go_roundg k2
                        case measure => have := HK1.out; have := HK2.out; omega
                        case rel => exact ⟨(wrap64 (x55_2 + 1)), (t128), (y129), (.slice (some ⟨go76, 0, none⟩) x104000_2.length co76), (by first | rfl | (simp; done) | (simp [*]; done)), H', ⟨by have := HK1.out; have := HK2.out; omega⟩, ⟨by (with_reducible repeat (first | apply Kd.R_alloc | apply Kd.R_drewN | apply Kd.R_drew)); exact HQ80.out⟩, ⟨by (with_reducible repeat (first | apply Kd.R_alloc | apply Kd.R_drewN | apply Kd.R_drew)); exact Kd.R_mono (Kd.R_far (p := ⟨go76, (x55_2 : Int).toNat, none⟩) (Kd.R_types HO_104001.out GG76.out (by decide)) (fun _ hk => hk.2) (.int .u8 ((t127) % 256))) (fun _ hk => trivial)⟩, ⟨by (with_reducible repeat (first | refine blk_drewN ?_ _ | refine blk_drew ?_ | refine blk_alloc ?_ _)); refine blk_far ?_ (by have h_ := Kd.R_ne HO_104000.out BK101.out (by decide); intro e_; exact h_ (by rw [e_]; rfl)) _; (with_reducible repeat (first | refine blk_drewN ?_ _ | refine blk_drew ?_ | refine blk_alloc ?_ _)); exact BK101.out⟩, ⟨by (with_reducible repeat (first | refine blk_drewN ?_ _ | refine blk_drew ?_ | refine blk_alloc ?_ _)); refine blk_far ?_ (by have h_ := Kd.R_ne HO_104000.out BK103.out (by decide); intro e_; exact h_ (by rw [e_]; rfl)) _; (with_reducible repeat (first | refine blk_drewN ?_ _ | refine blk_drew ?_ | refine blk_alloc ?_ _)); exact BK103.out⟩, ⟨by repeat (first | (with_reducible first | exact HI102.out | apply IsS42.alloc | apply IsS42.drewN | apply IsS42.drew | apply IsS42.set_0 | refine IsS42.far ?_ HN102_go76.out _ | refine IsS42.far ?_ NB102_101.out _ | refine IsS42.far ?_ NB102_103.out _) | exact HI102.out)⟩, ⟨by repeat (first | (with_reducible first | exact HB.out | apply below_alloc | apply pw_below_drewN | apply below_drew1 | refine below_set ?_ GB76.out | refine below_set ?_ (IsS42.ge HI102.out) | refine below_set ?_ GE101.out | refine below_set ?_ GE103.out) | exact HB.out)⟩⟩
                      · rw [if_neg c75] at H
                        exact absurd H (by simp)
                    · rw [if_neg c74] at H
                      exact absurd H (by simp)
                  · rw [if_neg c72] at H
                    have c72b0 : decide (0 < (x103000_2.length : Int)) = false := decide_eq_false c72
                    have c72b1 : decide (0 < x103000_2.length) = false := decide_eq_false (by omega)
                    clear c72
                    by_cases c81 : 0 ≤ x55_2
                    · rw [if_pos c81] at H
                      have c81b0 : decide (0 ≤ x55_2) = true := decide_eq_true c81
                      clear c81
                      by_cases c82 : x55_2 < (x104000_2.length : Int)
                      · rw [if_pos c82] at H
                        have c82b0 : decide (x55_2 < (x104000_2.length : Int)) = true := decide_eq_true c82
                        clear c82
                        obtain ⟨y130, hy130⟩ : ∃ y_ : List Int, y_ = (x104000_2.set (x55_2 : Int).toNat ((wrap64 ((wrap64 (7 * x55_2)) + (wrap64 (Int.tdiv x55_2 64)))) % 256)) := ⟨_, rfl⟩
                        replace H : (wrackmake_Drive.l1 k2 (y124.length : Int) (wrap64 (x55_2 + 1)) x103000_2 y130 x104001_1) = some (r1, r2) := by first | (rw [hy130]; with_reducible exact H) | (have H2_ := (Option.bind_some _ _).symm.trans H; rw [hy130]; with_reducible exact H2_) | (have H2_ := (Option.bind_some _ _).symm.trans H; with_reducible exact H2_) | with_reducible exact H | (rw [hy130]; exact H) | exact H
                        have Ny130 := Aside0.mk hy130
                        clear hy130
                        have H' := Aside0.mk H
                        clear H
                        obtain ⟨ASz84_0, cSz84_0, HGz84, hgz84, HSz84_0, hLSz84_0⟩ := HI102.out
                        have hcz84_0 := cellS42_0 HGz84
                        have hfz84_0 := blk_frozen HGz84 0
                        clear HGz84 hgz84
                        clear hLSz84_0
                        have hnb85 := NB103_101.out
                        have hnc85 := NB101_103.out
                        have hnb86 := NB103_102.out
                        have hnc86 := NB102_103.out
                        have hcz87_0 : wr.cell? ⟨gb103, 0, none⟩ = some (u104000) := (blk_cell BK103.out 0).trans rfl
                        have hcz87_1 : wr.cell? ⟨gb103, 1, none⟩ = some (u104001) := (blk_cell BK103.out 1).trans rfl
                        have hfz87_0 := blk_frozen BK103.out 0
                        have hfz87_1 := blk_frozen BK103.out 1
                        have p83 : 0 ≤ (x55_2 : Int) := of_decide_eq_true (by first | (with_reducible assumption) | assumption)
                        have q83 : (x55_2 : Int) < ((x104000_2.length : Int) : Int) := of_decide_eq_true (by first | (with_reducible assumption) | assumption)
                        obtain ⟨go83, co83, eo83, gb83, gl83, cl83, HG83⟩ := Kd.R_form HO_104000.out (by omega)
                        (first | cases eo83 | (injection eo83 with ea_ en_ ec_; (first | subst ea_ | (injection ea_ with ea_; subst ea_)); subst ec_; clear en_))
                        have GB83 := Aside0.mk gb83
                        have GG83 := Aside0.mk HG83
                        clear gb83 gl83 HG83
                        obtain ⟨hx83_0, hf83_0⟩ := Kd.R_celln 0 HO_104000.out (x55_2 : Int) p83 q83
                        replace p83 := eq_true p83
                        replace q83 := eq_true q83
                        have HP88 := Kd.R_putg HO_104000.out (x55_2 : Int) ((wrap64 ((wrap64 (7 * x55_2)) + (wrap64 (Int.tdiv x55_2 64)))) % 256)
                        go_wp2_with (first | ((with_reducible refine gate_store (t := 5) (p := 80) rfl ?_); refine store_event (t := 5) (p := 80) (v := ?vo_w89) (w1 := (wr.setCell ⟨go83, (x55_2 : Int).toNat, none⟩ (.int .u8 ((wrap64 ((wrap64 (7 * x55_2)) + (wrap64 (Int.tdiv x55_2 64)))) % 256)))) ?hg ?ho ?hn ?hr ?_; (case ho => rfl); (case hg => rfl); (case hn => rfl); (case hr => first | (go_simp; done) | (go_simp; rfl)); intro w89 hw; have hg : wr.grownBy w89 (some go83) := (by rw [hw]; exact HP88.2); have hp_ : Kd.R (Kd.int .u8) 5 w89 w.heap.size (fun _ => True) (.slice (some ⟨go83, 0, none⟩) x104000_2.length co83) y130 := (by rw [hw, Ny130.out]; exact HP88.1); clear HP88; have n0_ := Aside0.mk (hp_); have n1_ := Aside0.mk (Kd.R_over' (v := (.slice (some ⟨go83, 0, none⟩) x104000_2.length co83)) (by (with_reducible repeat (first | apply Kd.R_alloc | apply Kd.R_drewN | apply Kd.R_drew)); exact HO_104001.out) (Kd.R_typed HO_104000.out) (by decide) hg); have n2_ := Aside0.mk (blk_grown (g := gb101) (o := .cells #[.slice none 0 0, .slice none 0 0] 26 (0, 0)) (by (with_reducible repeat (first | refine blk_drewN ?_ _ | refine blk_drew ?_ | refine blk_alloc ?_ _)); exact BK101.out) hg (Kd.R_ne HO_104000.out BK101.out (by decide))); have n3_ := Aside0.mk (blk_grown (g := gb103) (o := .cells #[.slice (some ⟨go83, 0, none⟩) x104000_2.length co83, u104001] 26 (0, 0)) (by (with_reducible repeat (first | refine blk_drewN ?_ _ | refine blk_drew ?_ | refine blk_alloc ?_ _)); exact BK103.out) hg (Kd.R_ne HO_104000.out BK103.out (by decide))); have n4_ := Aside0.mk (IsS42.grown (by repeat (first | (with_reducible first | exact HI102.out | apply IsS42.alloc | apply IsS42.drewN | apply IsS42.drew | apply IsS42.set_0 | refine IsS42.far ?_ NB102_101.out _ | refine IsS42.far ?_ NB102_103.out _) | exact HI102.out)) hg (IsS42.own_ne HI102.out HO_104000.out (by decide))); have n5_ := Aside0.mk ((by rw [hw]; exact below_set (HB.out) GB83.out : Below w.heap.size w w89)); clear HO_104000; clear HO_104001; clear BK101; clear BK103; clear HI102; clear HB; have HO_104000 := n0_; have HO_104001 := n1_; have BK101 := n2_; have BK103 := n3_; have HI102 := n4_; have HB := n5_; clear n0_ n1_ n2_ n3_ n4_ n5_; clear hg hw hp_))
                        go_roundg k2
                        case measure => have := HK1.out; have := HK2.out; omega
                        case rel => exact ⟨(wrap64 (x55_2 + 1)), (x103000_2), (y130), (.slice (some ⟨go83, 0, none⟩) x104000_2.length co83), (by first | rfl | (simp; done) | (simp [*]; done)), H', ⟨by have := HK1.out; have := HK2.out; omega⟩, ⟨by (with_reducible repeat (first | apply Kd.R_alloc | apply Kd.R_drewN | apply Kd.R_drew)); exact HO_104000.out⟩, ⟨by (with_reducible repeat (first | apply Kd.R_alloc | apply Kd.R_drewN | apply Kd.R_drew)); exact HO_104001.out⟩, ⟨by (with_reducible repeat (first | refine blk_drewN ?_ _ | refine blk_drew ?_ | refine blk_alloc ?_ _)); exact BK101.out⟩, ⟨by (with_reducible repeat (first | refine blk_drewN ?_ _ | refine blk_drew ?_ | refine blk_alloc ?_ _)); exact BK103.out⟩, ⟨by repeat (first | (with_reducible first | exact HI102.out | apply IsS42.alloc | apply IsS42.drewN | apply IsS42.drew | apply IsS42.set_0 | refine IsS42.far ?_ NB102_101.out _ | refine IsS42.far ?_ NB102_103.out _) | exact HI102.out)⟩, ⟨by repeat (first | (with_reducible first | exact HB.out | apply below_alloc | apply pw_below_drewN | apply below_drew1 | refine below_set ?_ (IsS42.ge HI102.out) | refine below_set ?_ GE101.out | refine below_set ?_ GE103.out) | exact HB.out)⟩⟩
                      · rw [if_neg c82] at H
                        exact absurd H (by simp)
                    · rw [if_neg c81] at H
                      exact absurd H (by simp)
                · rw [if_neg c71] at H
                  have c71b0 : decide (x55_2 < (y124.length : Int)) = false := decide_eq_false c71
                  clear c71
                  simp only [Option.some.injEq, Prod.mk.injEq] at H
                  obtain ⟨rfl, rfl⟩ := H
                  have hnb90 := NB103_101.out
                  have hnc90 := NB101_103.out
                  have hnb91 := NB103_102.out
                  have hnc91 := NB102_103.out
                  have hcz92_0 : wr.cell? ⟨gb103, 0, none⟩ = some (u104000) := (blk_cell BK103.out 0).trans rfl
                  have hcz92_1 : wr.cell? ⟨gb103, 1, none⟩ = some (u104001) := (blk_cell BK103.out 1).trans rfl
                  have hfz92_0 := blk_frozen BK103.out 0
                  have hfz92_1 := blk_frozen BK103.out 1
                  obtain ⟨Ao93, co93, eo93⟩ := Kd.R_slice HO_104000.out
                  subst eo93
                  have hnb94 := NB101_102.out
                  have hnc94 := NB102_101.out
                  have hcz95_0 : wr.cell? ⟨gb101, 0, none⟩ = some (.slice none 0 0) := (blk_cell BK101.out 0).trans rfl
                  have hcz95_1 : wr.cell? ⟨gb101, 1, none⟩ = some (.slice none 0 0) := (blk_cell BK101.out 1).trans rfl
                  have hfz95_0 := blk_frozen BK101.out 0
                  have hfz95_1 := blk_frozen BK101.out 1
                  obtain ⟨Ao96, co96, eo96⟩ := Kd.R_slice HO_104001.out
                  subst eo96
                  go_wp2
                  refine bodyPost_ret (results_cell_row rfl _ _ gb101 26 #[.slice Ao93 x104000_2.length co93, .slice Ao96 x104001_1.length co96] (0, 0) _ rfl (by (with_reducible repeat (first | refine blk_drewN ?_ _ | refine blk_drew ?_ | refine blk_alloc ?_ _)); refine blk_put (cs := #[.slice Ao93 x104000_2.length co93, .slice none 0 0]) ?_ 1 _ rfl; (with_reducible repeat (first | refine blk_drewN ?_ _ | refine blk_drew ?_ | refine blk_alloc ?_ _)); refine blk_put (cs := #[.slice none 0 0, .slice none 0 0]) ?_ 0 _ rfl; (with_reducible repeat (first | refine blk_drewN ?_ _ | refine blk_drew ?_ | refine blk_alloc ?_ _)); exact BK101.out) Tryd.underlying26 rfl (by kernel_rfl)) rfl ?_
                  exact ⟨_, _, by first | rfl | (simp [errW_none, errW_some] <;> rfl) | (simp only [← hji62]; first | rfl | (simp [errW_none, errW_some] <;> rfl)) | (simp [*, errW_none, errW_some] <;> rfl), by (with_reducible repeat (first | apply Kd.R_alloc | apply Kd.R_drewN | apply Kd.R_drew)); exact Kd.R_mono (Kd.R_far (p := ⟨gb101, 1, none⟩) (Kd.R_far (p := ⟨gb101, 0, none⟩) (Kd.R_types HO_104000.out BK101.out (by decide)) (fun _ hk => hk.2) (.slice Ao93 x104000_2.length co93)) (fun _ hk => hk.2) (.slice Ao96 x104001_1.length co96)) (fun _ hk => trivial), by (with_reducible repeat (first | apply Kd.R_alloc | apply Kd.R_drewN | apply Kd.R_drew)); exact Kd.R_mono (Kd.R_far (p := ⟨gb101, 1, none⟩) (Kd.R_far (p := ⟨gb101, 0, none⟩) (Kd.R_types HO_104001.out BK101.out (by decide)) (fun _ hk => hk.2) (.slice Ao93 x104000_2.length co93)) (fun _ hk => hk.2) (.slice Ao96 x104001_1.length co96)) (fun _ hk => trivial), by repeat (first | (with_reducible first | exact HB.out | apply below_alloc | apply pw_below_drewN | apply below_drew1 | refine below_set ?_ (IsS42.ge HI102.out) | refine below_set ?_ GE101.out | refine below_set ?_ GE103.out) | exact HB.out)⟩
          · rw [if_neg c64] at H
            exact absurd H (by simp)
        · rw [if_neg c63] at H
          exact absurd H (by simp)

/-! ### bits_Mul32: function 20 -/
def bits_Mul32.f (a0 : Int) (a1 : Int) : Option (Int × Int) := some (((IntKind.u64.wrap ((IntKind.u64.wrap (a0)) * (IntKind.u64.wrap (a1)))) / 4294967296) % 4294967296, (IntKind.u64.wrap ((IntKind.u64.wrap (a0)) * (IntKind.u64.wrap (a1)))) % 4294967296)
set_option maxHeartbeats 8000000 in
set_option maxRecDepth 100000 in
theorem bits_Mul32.calls (a0 : Int) (a1 : Int) (r1 : Int) (r2 : Int) (w : World) (h : bits_Mul32.f a0 a1 = some (r1, r2)) :
    Calls Tryd.prog 20 #[.int .u32 a0, .int .u32 a1] w fun e w' => e = .returned (.tuple #[.int .u32 r1, .int .u32 r2]) ∧ Drawn0 w w' := by
  have H : (some (((IntKind.u64.wrap ((IntKind.u64.wrap (a0)) * (IntKind.u64.wrap (a1)))) / 4294967296) % 4294967296, (IntKind.u64.wrap ((IntKind.u64.wrap (a0)) * (IntKind.u64.wrap (a1)))) % 4294967296)) = some (r1, r2) := h
  clear h
  simp only [Option.some.injEq, Prod.mk.injEq] at H
  obtain ⟨rfl, rfl⟩ := H
  go_enter Tryd.func20, Tryd.ntmps20
  go_wp2
  go_ret2
  exact ⟨by first | rfl | (simp; done) | (simp [*]; done), by repeat (first | exact Drawn0.refl _ | apply Drawn0.step)⟩

/-! ### bits_Mul64: function 21 -/
def bits_Mul64.f (a0 : Int) (a1 : Int) : Option (Int × Int) := some (IntKind.u64.wrap ((IntKind.u64.wrap ((IntKind.u64.wrap ((a0 / 4294967296) * (a1 / 4294967296))) + ((IntKind.u64.wrap ((IntKind.u64.wrap ((a0 / 4294967296) * (Go.bits .and .u64 a1 4294967295))) + ((IntKind.u64.wrap ((Go.bits .and .u64 a0 4294967295) * (Go.bits .and .u64 a1 4294967295))) / 4294967296))) / 4294967296))) + ((IntKind.u64.wrap ((Go.bits .and .u64 (IntKind.u64.wrap ((IntKind.u64.wrap ((a0 / 4294967296) * (Go.bits .and .u64 a1 4294967295))) + ((IntKind.u64.wrap ((Go.bits .and .u64 a0 4294967295) * (Go.bits .and .u64 a1 4294967295))) / 4294967296))) 4294967295) + (IntKind.u64.wrap ((Go.bits .and .u64 a0 4294967295) * (a1 / 4294967296))))) / 4294967296)), IntKind.u64.wrap (a0 * a1))
set_option maxHeartbeats 8000000 in
set_option maxRecDepth 100000 in
theorem bits_Mul64.calls (a0 : Int) (a1 : Int) (r1 : Int) (r2 : Int) (w : World) (h : bits_Mul64.f a0 a1 = some (r1, r2)) :
    Calls Tryd.prog 21 #[.int .u64 a0, .int .u64 a1] w fun e w' => e = .returned (.tuple #[.int .u64 r1, .int .u64 r2]) ∧ Drawn0 w w' := by
  have H : (some (IntKind.u64.wrap ((IntKind.u64.wrap ((IntKind.u64.wrap ((a0 / 4294967296) * (a1 / 4294967296))) + ((IntKind.u64.wrap ((IntKind.u64.wrap ((a0 / 4294967296) * (Go.bits .and .u64 a1 4294967295))) + ((IntKind.u64.wrap ((Go.bits .and .u64 a0 4294967295) * (Go.bits .and .u64 a1 4294967295))) / 4294967296))) / 4294967296))) + ((IntKind.u64.wrap ((Go.bits .and .u64 (IntKind.u64.wrap ((IntKind.u64.wrap ((a0 / 4294967296) * (Go.bits .and .u64 a1 4294967295))) + ((IntKind.u64.wrap ((Go.bits .and .u64 a0 4294967295) * (Go.bits .and .u64 a1 4294967295))) / 4294967296))) 4294967295) + (IntKind.u64.wrap ((Go.bits .and .u64 a0 4294967295) * (a1 / 4294967296))))) / 4294967296)), IntKind.u64.wrap (a0 * a1))) = some (r1, r2) := h
  clear h
  simp only [Option.some.injEq, Prod.mk.injEq] at H
  obtain ⟨rfl, rfl⟩ := H
  go_enter Tryd.func21, Tryd.ntmps21
  go_wp2
  go_ret2
  exact ⟨by first | rfl | (simp; done) | (simp [*]; done), by repeat (first | exact Drawn0.refl _ | apply Drawn0.step)⟩

/-! ### bits_Mul: function 13 -/
def bits_Mul.f (a0 : Int) (a1 : Int) : Option (Int × Int) := (bits_Mul64.f a0 a1).bind fun bt131 => (some (bt131.1, bt131.2))
set_option maxHeartbeats 8000000 in
set_option maxRecDepth 100000 in
theorem bits_Mul.calls (a0 : Int) (a1 : Int) (r1 : Int) (r2 : Int) (w : World) (h : bits_Mul.f a0 a1 = some (r1, r2)) :
    Calls Tryd.prog 13 #[.int .u64 a0, .int .u64 a1] w fun e w' => e = .returned (.tuple #[.int .u64 r1, .int .u64 r2]) ∧ Drawn0 w w' := by
  have H : ((bits_Mul64.f a0 a1).bind fun bt131 => (some (bt131.1, bt131.2))) = some (r1, r2) := h
  clear h
  replace H := Option.bind_eq_some_iff.mp H
  obtain ⟨⟨t131, t132⟩, A30, H⟩ := H
  replace H : (some (t131, t132)) = some (r1, r2) := H
  have A3 := Aside0.mk A30
  clear A30
  simp only [Option.some.injEq, Prod.mk.injEq] at H
  obtain ⟨rfl, rfl⟩ := H
  go_enter Tryd.func13, Tryd.ntmps13
  go_wp2_with (first | ((with_reducible refine gate_callee (f := 21) rfl ?_); refine goesL_ (some 25) rfl rfl Tryd.func21 (by kernel_rfl) rfl #[.int .u64 a0, .int .u64 a1] rfl (by (try simp only [List.map_toArray, List.map_cons, List.map_nil]); first | done | rfl | (simp only [List.length_drop, List.length_take]; rfl)) ?_; (with_reducible refine (bits_Mul64.calls a0 a1 t131 t132 _ A3.out).mono ?_); rintro e w' ⟨rfl, ⟨nd, rfl⟩⟩; refine ⟨_, rfl, ?_⟩))
  go_ret2
  exact ⟨by first | rfl | (simp; done) | (simp [*]; done), by repeat (first | exact Drawn0.refl _ | apply Drawn0.step)⟩

/-! ### slices_Repeat_int_int: function 5 -/
theorem rep_copy (n y : Nat) (v : Int) (hy : y ≤ n) : copyAt (List.replicate y v ++ List.replicate (n - y) 0) y (List.replicate y v) = List.replicate (min (2 * y) n) v ++ List.replicate (n - min (2 * y) n) 0 := by
  apply List.ext_getElem?
  intro i
  unfold copyAt
  simp only [List.length_append, List.length_replicate, List.getElem?_append, List.length_take, List.getElem?_take, List.getElem?_drop, List.getElem?_replicate]
  by_cases c1 : i < y
  · have h1 : i < min y (y + (n - y)) := by omega
    have h2 : i < min (2 * y) n := by omega
    simp [h1, h2, c1]
  · by_cases c2 : i < min (2 * y) n
    · have h1 : ¬ i < min y (y + (n - y)) := by omega
      have h3 : i - min y (y + (n - y)) < min (min y (y + (n - y) - y)) y := by omega
      rw [if_neg h1, if_pos h3, if_pos (by omega), if_pos (by omega), if_pos c2]
      rw [if_pos c2]
    · have h1 : ¬ i < min y (y + (n - y)) := by omega
      have h3 : ¬ i - min y (y + (n - y)) < min (min y (y + (n - y) - y)) y := by omega
      rw [if_neg h1, if_neg h3, if_neg (by omega), if_neg c2]
      by_cases c3 : i < n
      · rw [if_pos (by omega), if_pos (by omega)]
      · rw [if_neg (by omega), if_neg (by omega)]
theorem own_typed_at {α : Type} {d : Kd α} {e base n c g : Nat} {ok : Nat → Prop} {W : World} {xs : List α} (h : Kd.R d e W base ok (.slice (some ⟨g, 0, none⟩) n c) xs) : W.heap[g]? = some (.cells (own_typed h.2.choose_spec.1 g (by simp [Value.ownBlock])).choose e (0, 0)) := (own_typed h.2.choose_spec.1 g (by simp [Value.ownBlock])).choose_spec
set_option maxHeartbeats 4000000 in
set_option maxRecDepth 100000 in
/-- slices.Repeat of one int. -/
theorem slices_Repeat_int_int.calls (A0 : Option Addr) (c0 : Nat) (v : Int) (n : Nat) (w : World) (hr0 : Kd.C (Kd.int .i64) w A0 1 [v]) (hc0 : 1 ≤ c0) (hn : 1 ≤ n) (hn2 : n ≤ 1024) (hm : bits_Mul.f 1 n = some (0, (n : Int))) :
    Calls Tryd.prog 5 #[.slice A0 1 c0, .int .i64 n] w fun e w' => ∃ v0_ : Value, e = .returned v0_ ∧ Kd.R (Kd.int .i64) 3 w' w.heap.size (fun _ => True) v0_ (List.replicate n v) ∧ Below w.heap.size w w' := by
  have HR := Aside0.mk hr0
  have HM := Aside0.mk hm
  have HC := Aside0.mk hc0
  clear hr0 hm hc0
  have hwu : IntKind.u64.wrap (n : Int) = (n : Int) := by simp [IntKind.wrap, IntKind.bits, IntKind.signed]; omega
  have hwi : IntKind.i64.wrap (n : Int) = (n : Int) := by rw [IntKind.wrap_i64]; omega
  go_enter Tryd.func5, Tryd.ntmps5
  go_upto_region 6 with (go_at_call 13; refine (bits_Mul.calls 1 (n : Int) 0 (n : Int) _ HM.out).mono ?_; rintro e w2 ⟨rfl, nd, rfl⟩; have HB2 := Aside0.mk (pw_below_drewN (Below.refl w.heap.size w) nd))
  go_upto_region 7 with ((with_reducible refine gate_dst (N := 30) rfl ?_); refine Kd.R_make (Kd.int .i64) _ 3 rfl (N := 30) rfl 22 _ _ rfl (n : Int) rfl rfl Tryd.underlying22 (.int .i64 0) 8 info3 rfl (by decide) (by omega) 0 (ok := fun _ => True) (okp := fun _ => True) rfl (fun _ hk => hk) trivial (by omega) (by rw [Int.toNat_natCast]; omega) (Below.refl _ _) (Nat.le_refl _) ?_; intro v3 w3 ho hb hg_ hnew_; clear hg_ hnew_; rw [Int.toNat_natCast] at ho; have HO3 := Aside0.mk ho; have HB3 := Aside0.mk (below_step HB2.out hb); clear hb ho)
  obtain ⟨g, cap, e3, hg3, -⟩ := Kd.R_form HO3.out (by rw [List.length_replicate]; omega)
  rw [List.length_replicate] at e3
  subst e3
  have hcap := (Kd.R_reads' HO3.out).2.1
  have hcap0 : ¬ cap = 0 := by omega
  have hg0 : w.heap.size ≤ g := Nat.le_trans HB2.out.size hg3
  have hmin : min 1 n = 1 := by omega
  go_upto_region 8 with ((with_reducible refine gate_builtin (b := .copy) (xs := #[.tmp 31, .tmp 32]) rfl ?_); refine copy_at (enc := (Value.int .i64)) (h1 := fun _ => rfl) 0 (w.drewN nd).heap.size rfl (.tmp 31) (.tmp 32) 22 22 3 rfl Tryd.underlying22 (by kernel_rfl) (A0 := some ⟨g, 0, none⟩) (n := n) (c := cap) (k := 0) (xs := List.replicate n 0) (ys := [v]) rfl rfl ?hA ?hnd ?hk HO3.out ?hR (Below.refl _ _) ?hS ?_; (case hA => (rw [if_neg hcap0]; rfl)); (case hnd => rfl); (case hk => omega); (case hR => exact Kd.C_below HR.out HB3.out); (case hS => exact Nat.le_trans hg3 (Nat.le_of_lt (blk_lt (own_typed_at HO3.out)))); intro w4 ho hb hg; rw [hmin]; have HO4 := Aside0.mk ho; have HB4 := Aside0.mk (HB3.out.grown hg HB3.out.size (fun k e => (show g = k by simpa [Value.ownBlock] using e) ▸ hg0)); clear ho hb hg)
  have hx4 : copyAt (List.replicate n 0) 0 [v] = List.replicate 1 v ++ List.replicate (n - 1) 0 := by
    obtain ⟨q, rfl⟩ : ∃ q, n = q + 1 := ⟨n - 1, by omega⟩
    simp [copyAt]
  rw [hx4] at HO4
  obtain ⟨i0, hi0, _, hsz, _⟩ := info_parts info3
  clear hx4 HO3 HB3 hcap0 hmin
  go_upto_block 0 with (fail)
  go_loopw [8] (fun i wr => ∃ (y : Nat), 1 ≤ y ∧ y ≤ n ∧ i = .int .i64 y ∧ Aside0 ((Kd.int .i64).R 3 wr (w.drewN nd).heap.size (fun _ => True) (.slice (some ⟨g, 0, none⟩) n cap) (List.replicate y v ++ List.replicate (n - y) 0)) ∧ Aside0 (Below w.heap.size w wr)) (fun i _ => n - (intOf i).toNat)
  case atStart => exact ⟨1, Nat.le_refl _, hn, rfl, HO4, HB4⟩
  case round =>
    obtain ⟨y, y1, y2, rfl, HO, HB⟩ := hrel
    clear HO4 HB4
    by_cases hlt : y < n
    · have hc1 := cut_from (P := Tryd.prog) 22 3 .i64 Tryd.underlying22 hi0 1 hsz (some ⟨g, 0, none⟩) n cap (y : Int) (by omega) (by omega)
      have hc2 := cut_to (P := Tryd.prog) 22 3 .i64 Tryd.underlying22 hi0 (some ⟨g, 0, none⟩) n cap (y : Int) (by omega) (by omega) hcap
      rw [Int.toNat_natCast] at hc1 hc2
      have hcy : ¬ cap = y := by omega
      rw [if_neg hcy] at hc1
      have HCy : Aside0 (Kd.C (Kd.int .i64) wr (some ⟨g, 0, none⟩) y (List.replicate y v)) := ⟨by
        have h1 := (Kd.R_reads' HO.out).2.2
        have h2 := Kd.C_take (m := y) h1 (by rw [List.length_append, List.length_replicate]; omega)
        rw [List.take_left' List.length_replicate, List.length_replicate] at h2
        exact h2⟩
      have hrep := rep_copy n y v y2
      obtain ⟨w5, hr5, hO5, hG5⟩ := run_copy_at (P := Tryd.prog) (enc := (Value.int .i64)) (h1 := fun _ => rfl) 0 (W := wr.drew) (w.drewN nd).heap.size 22 22 3 3 Tryd.underlying22 (by kernel_rfl) (A0 := some ⟨g, 0, none⟩) (A := some ⟨g, y, none⟩) (n := n) (c := cap) (k := y) (nd := n - y) (cd := cap - y) (m := y) (cs := cap) (xs := List.replicate y v ++ List.replicate (n - y) 0) (ys := List.replicate y v) (by rw [if_neg hcy]; simp [Addr.add]; omega) rfl y2 (Kd.R_below HO.out (below_drew1 (Below.refl _ _))) (Kd.C_below HCy.out (below_drew1 (Below.refl _ _)))
      rw [hrep] at hO5
      obtain ⟨q, hq⟩ : ∃ q, min y (n - y) = q := ⟨_, rfl⟩
      rw [hq] at hr5
      have hq2 : min (2 * y) n = y + q := by omega
      rw [hq2] at hO5
      have hq3 : y + q ≤ n := by omega
      have hq4 : 1 ≤ q := by omega
      have HO5 := Aside0.mk hO5
      have HB5 := Aside0.mk (((HB.out.trans ((below_drew1 (Below.refl wr.heap.size wr)).mono HB.out.size))).grown hG5 (HB.out.size) (fun k e => (show g = k by simpa [Value.ownBlock] using e) ▸ hg0))
      have hwq : IntKind.i64.wrap ((y : Int) + (q : Int)) = (y : Int) + (q : Int) := by rw [IntKind.wrap_i64]; omega
      unfold goInt at hr5
      clear hO5 hG5 hrep hq hq2
      go_upto_region 9 with (fail)
      go_region_with (fail)
      all_goals
        go_simp
        go_wp2
        go_roundw
        case rel => exact ⟨y + q, by omega, by omega, by go_num, HO5, HB5⟩
        case measure => simp [intOf]; omega
    · have ey : y = n := by omega
      subst ey
      have hf := HO.out
      rw [Nat.sub_self, List.replicate_zero, List.append_nil] at hf
      have HF := Aside0.mk hf
      clear hf
      go_wp2
      go_ret
      exact ⟨_, rfl, HF.out, HB.out⟩

end Go.Proofs.YtcnabemeadnecaaDoor.PKnownClashes
