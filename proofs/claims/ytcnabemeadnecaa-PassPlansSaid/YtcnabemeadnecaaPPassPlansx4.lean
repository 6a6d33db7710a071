-- written by prn.py, a program of this session, over the kit's printer
import Derived.Test.YtcnabemeadnecaaPPassPlansx0
import Derived.Test.YtcnabemeadnecaaPPassPlansx3
namespace Go.Proofs.Ytcnabemeadnecaa.PPassPlans
open Go.RowKit Go.Proofs.YtcnabemeadnecaaW.PrintWords Go.Proofs.YtcnabemeadnecaaW.PrintLast Go.Proofs.YtcnabemeadnecaaW.PrintMore Go.Proofs.YtcnabemeadnecaaW.PrintMine
attribute [local go_sem] max2_int min2_int max_two min_two max_three min_three max_four min_four   -- for this text's walks alone
set_option linter.unusedVariables false
set_option linter.unusedSimpArgs false

/-! ### slices_Clone_byte_byte: function 24 -/
def slices_Clone_byte_byte.f (l0 : List Int) : Option (List Int) := if l0.length ≤ 140737488355328 then (some l0) else (none)
set_option maxHeartbeats 8000000 in
set_option maxRecDepth 100000 in
theorem slices_Clone_byte_byte.calls (A0 : Option Addr) (c0 : Nat) (l0 : List Int) (r : List Int) (w : World) (hr0 : Kd.C (Kd.int .u8) w A0 l0.length l0) (hc0 : l0.length ≤ c0) (h : slices_Clone_byte_byte.f l0 = some r) :
    Calls Try.prog 24 #[.slice A0 l0.length c0] w fun e w' => ∃ v0_ : Value, e = .returned (v0_) ∧ Kd.R (Kd.int .u8) 5 w' w.heap.size (fun _ => True) v0_ r ∧ Below w.heap.size w w' := by
  have H : (if l0.length ≤ 140737488355328 then (some l0) else (none)) = some r := h
  clear h
  by_cases c1 : l0.length ≤ 140737488355328
  · rw [if_pos c1] at H
    obtain rfl := Option.some.inj H
    clear H
    have q1 : ∀ (w : World) (a : Option Addr) (n c n' c' : Nat), (binOp .eql 23 (.slice a n c) (.slice none n' c')).run Try.prog w = .ok (.bool a.isNone) w := fun w a n c n' c' => Go.Lib.run_eql_slice_nil w _ _ a n c n' c' Try.underlying23
    cases A0 with
    | none =>
      have h0 : l0.length = 0 := by
        rcases Nat.eq_zero_or_pos l0.length with h0 | h0
        · exact h0
        · obtain ⟨ad, h, _⟩ := hr0.2.2 h0
          cases h
      obtain rfl := List.eq_nil_of_length_eq_zero h0
      clear hr0 hc0 c1 h0
      go_enter Try.func24, Try.ntmps24
      go_wp2
      go_ret
      exact ⟨_, rfl, Kd.R_nil _ _ _ _ _, Below.refl _ _⟩
    | some ad =>
      have HR := Aside0.mk hr0
      have C1 := Aside0.mk (show (([] : List Int).length + l0.length) * 1 ≤ 140737488355328 from by simp only [List.length_nil]; omega)
      clear hr0 hc0 c1
      go_enter Try.func24, Try.ntmps24
      go_wp2_with (first | (at_builtin; refine Kd.R_append_rows (Kd.int .u8) (w0 := w) w.heap.size rfl (.tmp 5) (.tmp 6) 23 5 (.int .u8 0) 1 rfl Try.underlying23 info5 rfl (by decide) (by omega) (.slice (some ⟨w.heap.size, 0, none⟩) 0 0) [] l0 (some ad) _ _ (fun _ => True) (fun _ => False) rfl rfl ⟨fun _ _ => trivial, [], World.ownsRow_made w #[] 0 (Nat.le_refl _) (Nat.zero_le _) (by simp), Reps.none _ _⟩ (Kd.C_below HR.out (below_alloc (Below.refl _ _) _)) (fun _ _ h => h) (fun _ h => h.elim) (fun _ _ => trivial) (below_alloc (Below.refl _ _) _) (by simp) C1.out ?_; intro v1 w1 ho hb hg hat; clear hg hat; rw [List.nil_append] at ho; have HO := Aside0.mk ho; have HB := Aside0.mk hb; clear ho hb))
      go_ret
      exact ⟨_, rfl, HO.out, HB.out⟩
  · rw [if_neg c1] at H
    exact absurd H (by simp)

/-- A state of type 59 at block g of W; what its slices lead to came in by w0. -/
def IsS59 (w0 W : World) (g : Nat) (f0 : Int) (f1 : Int) (f2 : Int) : Prop := W.heap[g]? = some (.cells #[.int .i64 f0, .int .i64 f1, .int .i64 f2] 59 (0, 0)) ∧ w0.heap.size ≤ g
theorem IsS59.grown {w0 W : World} {g : Nat} {f0 : Int} {f1 : Int} {f2 : Int} {W1 : World} {row : Option Nat} (h : IsS59 w0 W g f0 f1 f2) (hw : W.grownBy W1 row) (hne : some g ≠ row) : IsS59 w0 W1 g f0 f1 f2 := by
  obtain ⟨hb, hg⟩ := h
  exact ⟨blk_grown hb hw hne, hg⟩
theorem IsS59.own_neN {w0 W : World} {g : Nat} {f0 : Int} {f1 : Int} {f2 : Int} {α : Type} {d : Kd α} {e : Nat} {base : Nat} {ok : Nat → Prop} {v : Value} {xs : List α} (h : IsS59 w0 W g f0 f1 f2) (ho : Kd.N d e W base ok v xs) (ht : e ≠ 59) : some g ≠ v.ownBlock := by
  obtain ⟨hb, hg⟩ := h
  exact Kd.N_ne ho hb ht
theorem IsS59.fresh {w0 W : World} {g : Nat} {f0 : Int} {f1 : Int} {f2 : Int} (h : IsS59 w0 W g f0 f1 f2) : ∀ k, W.heap.size ≤ k → k ≠ g := by
  obtain ⟨hb, hg⟩ := h
  exact Kd.freshB hb
theorem IsS59.kept {w0 W : World} {g : Nat} {f0 : Int} {f1 : Int} {f2 : Int} {W1 : World} {S : Nat → Prop} (h : IsS59 w0 W g f0 f1 f2) (hk : Kept W W1 S) (hne : ¬ S g) : IsS59 w0 W1 g f0 f1 f2 := by
  obtain ⟨hb, hg⟩ := h
  exact ⟨blk_kept hb hk hne, hg⟩
theorem IsS59.below {w0 W : World} {g : Nat} {f0 : Int} {f1 : Int} {f2 : Int} {W1 : World} (h : IsS59 w0 W g f0 f1 f2) (hw : Below W.heap.size W W1) : IsS59 w0 W1 g f0 f1 f2 := h.grown (grown_of_below hw none) (by simp)
theorem IsS59.alloc {w0 W : World} {g : Nat} {f0 : Int} {f1 : Int} {f2 : Int} (h : IsS59 w0 W g f0 f1 f2) (o : Obj) : IsS59 w0 (W.alloc o) g f0 f1 f2 := h.below (below_alloc (Below.refl _ _) o)
theorem IsS59.drewN {w0 W : World} {g : Nat} {f0 : Int} {f1 : Int} {f2 : Int} (h : IsS59 w0 W g f0 f1 f2) (m : Nat) : IsS59 w0 (W.drewN m) g f0 f1 f2 := h
theorem IsS59.drew {w0 W : World} {g : Nat} {f0 : Int} {f1 : Int} {f2 : Int} (h : IsS59 w0 W g f0 f1 f2) : IsS59 w0 W.drew g f0 f1 f2 := h
theorem IsS59.at_ {w0 W : World} {g : Nat} {f0 : Int} {f1 : Int} {f2 : Int} {w' : World} {m : Nat} (hq : W.drewN m = w') (h : IsS59 w0 W g f0 f1 f2) : IsS59 w0 w' g f0 f1 f2 := by subst hq; exact IsS59.drewN h m
theorem IsS59.apart {w0 W : World} {g : Nat} {f0 : Int} {f1 : Int} {f2 : Int} {α : Type} {d : Kd α} {e : Nat} {base : Nat} {ok : Nat → Prop} {v : Value} {xs : List α} (h : IsS59 w0 W g f0 f1 f2) (ho : d.R e W base ok v xs) (ht : ∀ q, q ∈ e :: d.E → q ≠ 59) : d.R e W base (fun k => ok k ∧ k ≠ g) v xs := by
  obtain ⟨hb, hg⟩ := h
  exact Kd.R_types ho hb ht
theorem IsS59.own_ne {w0 W : World} {g : Nat} {f0 : Int} {f1 : Int} {f2 : Int} {α : Type} {d : Kd α} {e : Nat} {base : Nat} {ok : Nat → Prop} {v : Value} {xs : List α} (h : IsS59 w0 W g f0 f1 f2) (ho : d.R e W base ok v xs) (ht : e ≠ 59) : some g ≠ v.ownBlock := by
  obtain ⟨hb, hg⟩ := h
  exact Kd.R_ne ho hb ht
theorem IsS59.apartQ {w0 W : World} {g : Nat} {f0 : Int} {f1 : Int} {f2 : Int} {α : Type} {d : Kd α} {e : Nat} {base : Nat} {ok : Nat → Prop} {v : Value} {xs : List α} (h : IsS59 w0 W g f0 f1 f2) (ho : d.Q e W base ok v xs) (ht : ∀ q, q ∈ e :: d.E → q ≠ 59) : d.Q e W base (fun k => ok k ∧ k ≠ g) v xs := by
  obtain ⟨hb, hg⟩ := h
  exact Kd.Q_types ho hb ht
theorem IsS59.own_neQ {w0 W : World} {g : Nat} {f0 : Int} {f1 : Int} {f2 : Int} {α : Type} {d : Kd α} {e : Nat} {base : Nat} {ok : Nat → Prop} {v : Value} {xs : List α} (h : IsS59 w0 W g f0 f1 f2) (ho : d.Q e W base ok v xs) (ht : e ≠ 59) : some g ≠ v.ownBlock := by
  obtain ⟨hb, hg⟩ := h
  exact Kd.Q_ne ho hb ht
theorem IsS59.apartS {w0 W : World} {g : Nat} {f0 : Int} {f1 : Int} {f2 : Int} {α : Type} {d : Kd α} {e : Nat} {base : Nat} {ok : Nat → Prop} {v : Value} {xs : List α} (h : IsS59 w0 W g f0 f1 f2) (ho : d.S e W base ok v xs) (ht : ∀ q, q ∈ e :: d.E → q ≠ 59) : d.S e W base (fun k => ok k ∧ k ≠ g) v xs := by
  obtain ⟨hb, hg⟩ := h
  exact Kd.S_types ho hb ht
theorem IsS59.own_neS {w0 W : World} {g : Nat} {f0 : Int} {f1 : Int} {f2 : Int} {α : Type} {d : Kd α} {e : Nat} {base : Nat} {ok : Nat → Prop} {v : Value} {xs : List α} (h : IsS59 w0 W g f0 f1 f2) (ho : d.S e W base ok v xs) (ht : e ≠ 59) : some g ≠ v.ownBlock := by
  obtain ⟨hb, hg⟩ := h
  exact Kd.S_ne ho hb ht
theorem IsS59.lt {w0 W : World} {g : Nat} {f0 : Int} {f1 : Int} {f2 : Int} (h : IsS59 w0 W g f0 f1 f2) : g < W.heap.size := by
  obtain ⟨hb, hg⟩ := h
  exact blk_lt hb
theorem IsS59.ge {w0 W : World} {g : Nat} {f0 : Int} {f1 : Int} {f2 : Int} (h : IsS59 w0 W g f0 f1 f2) : w0.heap.size ≤ g := by
  obtain ⟨hb, hg⟩ := h
  exact hg
theorem IsS59.ne_blk {w0 W : World} {g : Nat} {f0 : Int} {f1 : Int} {f2 : Int} {a : Nat} {cs : Array Value} {t : TypeId} {fr : Nat × Nat} (h : IsS59 w0 W g f0 f1 f2) (hb2 : W.heap[a]? = some (.cells cs t fr)) (ht : t ≠ 59) : g ≠ a := by
  obtain ⟨hb, hg⟩ := h
  rintro rfl
  rw [hb] at hb2
  injection hb2 with hb2
  injection hb2 with _ ht2
  exact ht ht2.symm
theorem IsS59.far {w0 W : World} {g : Nat} {f0 : Int} {f1 : Int} {f2 : Int} {p : Addr} (h : IsS59 w0 W g f0 f1 f2) (hne : g ≠ p.block) (u : Value) : IsS59 w0 (W.setCell p u) g f0 f1 f2 := by
  obtain ⟨hb, hg⟩ := h
  exact ⟨blk_far hb hne u, hg⟩
theorem cellS59_0 {W : World} {g : Nat} {f0 : Int} {f1 : Int} {f2 : Int} (h : W.heap[g]? = some (.cells #[.int .i64 f0, .int .i64 f1, .int .i64 f2] 59 (0, 0))) : W.cell? ⟨g, 0, none⟩ = some (.int .i64 f0) := (blk_cell h 0).trans rfl
theorem IsS59.set_0 {w0 W : World} {g : Nat} {f0 : Int} {f1 : Int} {f2 : Int} (h : IsS59 w0 W g f0 f1 f2) (x : Int) : IsS59 w0 (W.setCell ⟨g, 0, none⟩ (.int .i64 x)) g x f1 f2 := by
  obtain ⟨hb, hg⟩ := h
  exact ⟨by simpa using blk_set hb 0 (.int .i64 x), hg⟩
theorem cellS59_1 {W : World} {g : Nat} {f0 : Int} {f1 : Int} {f2 : Int} (h : W.heap[g]? = some (.cells #[.int .i64 f0, .int .i64 f1, .int .i64 f2] 59 (0, 0))) : W.cell? ⟨g, 1, none⟩ = some (.int .i64 f1) := (blk_cell h 1).trans rfl
theorem IsS59.set_1 {w0 W : World} {g : Nat} {f0 : Int} {f1 : Int} {f2 : Int} (h : IsS59 w0 W g f0 f1 f2) (x : Int) : IsS59 w0 (W.setCell ⟨g, 1, none⟩ (.int .i64 x)) g f0 x f2 := by
  obtain ⟨hb, hg⟩ := h
  exact ⟨by simpa using blk_set hb 1 (.int .i64 x), hg⟩
theorem cellS59_2 {W : World} {g : Nat} {f0 : Int} {f1 : Int} {f2 : Int} (h : W.heap[g]? = some (.cells #[.int .i64 f0, .int .i64 f1, .int .i64 f2] 59 (0, 0))) : W.cell? ⟨g, 2, none⟩ = some (.int .i64 f2) := (blk_cell h 2).trans rfl
theorem IsS59.set_2 {w0 W : World} {g : Nat} {f0 : Int} {f1 : Int} {f2 : Int} (h : IsS59 w0 W g f0 f1 f2) (x : Int) : IsS59 w0 (W.setCell ⟨g, 2, none⟩ (.int .i64 x)) g f0 f1 x := by
  obtain ⟨hb, hg⟩ := h
  exact ⟨by simpa using blk_set hb 2 (.int .i64 x), hg⟩
theorem IsS59.new (w0 W : World) (f0 : Int) (f1 : Int) (f2 : Int) (hB : Below w0.heap.size w0 W) : IsS59 w0 (W.alloc (.cells #[.int .i64 f0, .int .i64 f1, .int .i64 f2] 59)) W.heap.size f0 f1 f2 := ⟨by simpa using heap_alloc_new W _, hB.size⟩

/-! ### api_Fault: function 25 -/
/-! ### drv_base: function 9999 -/
def ansT (f : Int × Int × Int) : Int := if f.2.1 = 3 then f.2.2 else 1
def ansE (f : Int × Int × Int) (t : Int) : Int := if f.2.1 = 1 ∨ (f.2.1 = 2 ∧ t < f.2.2) then 19 else 0
def ansR (D : List Int) (blk : Int) (f : Int × Int × Int) (t : Int) : List Int := if ansE f t = 0 then (D.drop (blk * 64).toNat).take 64 else []
theorem ansR_len (D : List Int) (blk : Int) (f : Int × Int × Int) (t : Int) : (ansR D blk f t).length ≤ 64 := by
  unfold ansR
  split
  · rw [List.length_take]; omega
  · simp
def upd (m : Int → Int) (x v : Int) : Int → Int := fun y => if y = x then v else m y
/-- Block b is a map that has these numbers; 0 at all other keys. -/
def MapF (w : World) (b : Nat) (m : Int → Int) (N : Nat) : Prop := ∃ Dt : DataW Unit, w.ownsMap Try.prog 3 (plainElem Try.prog 3) b N Dt ∧ Go.Maps.IsMap Dt ∧ ∀ x : Int, Dt.atKey (.int .i64 x) (.lit (.int .i64 0)) = .lit (.int .i64 (m x))
theorem MapF.look {w : World} {b N : Nat} {m : Int → Int} (h : MapF w b m N) (x : Int) (hx : (Lit.int .i64 x).wf = true) : (Instr.lookup 63 (.map (some b)) (.int .i64 x) false).run Try.prog w = .ok (.int .i64 (m x)) w := by
  obtain ⟨Dt, h1, h2, h3⟩ := h
  obtain ⟨c, hr, ha, _⟩ := h1.lookup_int (t := 63) (Go.Maps.int_keyed Try.underlying3) Try.underlying63 Try.underlying3 (by kernel_rfl) (Go.Maps.keyOf_int_mk Try.underlying3 hx)
  rw [h3 x] at ha
  injection ha with ha
  injection ha with _ ha
  rw [ha]
  exact hr
theorem MapF.put {w : World} {b N : Nat} {m : Int → Int} (h : MapF w b m N) (hN : N < maxLen) (x v : Int) (hx : (Lit.int .i64 x).wf = true) (hv : (Lit.int .i64 v).wf = true) :
    ∃ w', (Instr.mapUpdate 63 (.map (some b)) (.int .i64 x) (.int .i64 v)).run Try.prog w = .ok () w' ∧ MapF w' b (upd m x v) (N + 1) ∧ w.grownBy w' (some b) := by
  obtain ⟨Dt, h1, h2, h3⟩ := h
  obtain ⟨w', hr, ho, hg⟩ := h1.update (t := 63) (Go.Maps.int_keyed Try.underlying3) Try.underlying63 hN (Go.Maps.keyOf_int_mk Try.underlying3 hx) (plainElem_int Try.underlying3 hv)
  refine ⟨w', hr, ⟨_, ho, h2.put _ _, fun y => ?_⟩, hg⟩
  unfold upd
  by_cases c : y = x
  · subst c
    rw [if_pos rfl]
    exact Go.Maps.atKey_put_same h2 (show WideAt.IsKeyLit (.int .i64 y) from trivial) _ _
  · rw [if_neg c, Go.Maps.atKey_put_other (fun e => c (by injection e))]
    exact h3 y
theorem MapF.made (w : World) : MapF (w.alloc (.map #[] 0)) w.heap.size (fun _ => 0) 0 := ⟨.map [], World.ownsMap_made _ _ _ _, Go.Maps.isMap_empty, fun _ => rfl⟩
theorem MapF.kept {w w' : World} {b N : Nat} {m : Int → Int} {row : Option Nat} (h : MapF w b m N) (hg : w.grownBy w' row) (hne : some b ≠ row) : MapF w' b m N := by
  obtain ⟨Dt, h1, h2⟩ := h
  exact ⟨Dt, h1.kept hg hne, h2⟩
/-- Block g is a disk: its bytes, its faults, how often each block was tried, how much time has gone; all of it from block m on, and below block n. -/
def IsDisk (m n : Nat) (w : World) (g : Nat) (D : List Int) (F : List S59) (mp : Int → Int) (N : Nat) (tm : Int) : Prop :=
  ∃ (A : Option Addr) (c : Nat) (B : Option Addr) (d b : Nat), w.heap[g]? = some (.cells #[.slice A D.length c, .slice B F.length d, .map (some b), .int .i64 tm] 65 (0, 0)) ∧ (m ≤ g ∧ g < n) ∧ (m ≤ b ∧ b < n) ∧ b ≠ g ∧
    Kd.R (Kd.int .u8) 5 w m (fun k => k ≠ g ∧ k ≠ b ∧ k < n) (.slice A D.length c) D ∧ Kd.R k59 59 w m (fun k => k ≠ g ∧ k ≠ b ∧ k < n) (.slice B F.length d) F ∧ MapF w b mp N
theorem grown_below {w w' : World} (h : Below w.heap.size w w') : w.grownBy w' none := ⟨h.os, h.tape, h.output, h.size, fun k hk _ => h.block k hk⟩
theorem MapF.below {w w' : World} {b N : Nat} {m : Int → Int} (h : MapF w b m N) (hb : Below w.heap.size w w') : MapF w' b m N := h.kept (grown_below hb) (by simp)
theorem IsDisk.below {m n : Nat} {w W : World} {g : Nat} {D : List Int} {F : List S59} {mp : Int → Int} {N : Nat} {tm : Int} (h : IsDisk m n w g D F mp N tm) (hb : Below w.heap.size w W) : IsDisk m n W g D F mp N tm := by
  obtain ⟨A, c, B, d, b, h1, h2, h3, h4, h5, h6, h7⟩ := h
  exact ⟨A, c, B, d, b, blk_below h1 hb, h2, h3, h4, Kd.R_below h5 hb, Kd.R_below h6 hb, h7.below hb⟩
theorem grown_set (w : World) (g j : Nat) (v : Value) : w.grownBy (w.setCell ⟨g, j, none⟩ v) (some g) := ⟨rfl, rfl, rfl, by simp [World.setCell], fun k hk hne => Below.heap_setCell w ⟨g, j, none⟩ v k (fun e => hne (by rw [e]))⟩
theorem IsDisk.kept {m n : Nat} {w W : World} {g : Nat} {D : List Int} {F : List S59} {mp : Int → Int} {N : Nat} {tm : Int} {row : Option Nat} (h : IsDisk m n w g D F mp N tm) (hb : w.grownBy W row) (hr : ∀ k, row = some k → n ≤ k) : IsDisk m n W g D F mp N tm := by
  obtain ⟨A, c, B, d, b, h1, h2, h3, h4, h5, h6, h7⟩ := h
  have ne : ∀ k, k < n → some k ≠ row := fun k hk e => by have := hr k e.symm; omega
  exact ⟨A, c, B, d, b, (hb.block g (blk_lt h1) (ne g h2.2)).trans h1, h2, h3, h4, Kd.R_step h5 (fun k ho hl => hb.block k hl (ne k ho.2.2)), Kd.R_step h6 (fun k ho hl => hb.block k hl (ne k ho.2.2)), h7.kept hb (ne b h3.2)⟩

/-! ### api_Fault: function 25 -/
def api_Fault.f (l0 : List S59) : Option (List S59) := if l0.length ≤ 65536 then some l0 else none
set_option maxHeartbeats 2000000 in
set_option maxRecDepth 100000 in
theorem api_Fault.calls (A0 : Option Addr) (c0 : Nat) (l0 : List S59) (r : List S59) (w : World) (hr0 : Kd.C k59 w A0 l0.length l0) (hc0 : l0.length ≤ c0) (h : api_Fault.f l0 = some r) :
    Calls Try.prog 25 #[.slice A0 l0.length c0] w fun e w' => ∃ v0_ : Value, e = .returned (v0_) ∧ Kd.R k59 59 w' w.heap.size (fun _ => True) v0_ r ∧ Below w.heap.size w w' := by
  unfold api_Fault.f at h
  split at h
  case isFalse => exact absurd h (by simp)
  case isTrue c1 =>
  obtain rfl := Option.some.inj h
  clear h
  have q1 : ∀ (w : World) (a : Option Addr) (n c n' c' : Nat), (binOp .eql 24 (.slice a n c) (.slice none n' c')).run Try.prog w = .ok (.bool a.isNone) w := fun w a n c n' c' => Go.Lib.run_eql_slice_nil w _ _ a n c n' c' Try.underlying24
  cases A0 with
  | none =>
    have h0 : l0.length = 0 := by
      rcases Nat.eq_zero_or_pos l0.length with h0 | h0
      · exact h0
      · obtain ⟨ad, h, _⟩ := hr0.2.2 h0
        cases h
    obtain rfl := List.eq_nil_of_length_eq_zero h0
    clear hr0 hc0 c1 h0
    go_enter Try.func25, Try.ntmps25
    go_wp2
    go_ret
    exact ⟨_, rfl, Kd.R_nil _ _ _ _ _, Below.refl _ _⟩
  | some ad =>
    have HR := Aside0.mk hr0
    have C1 := Aside0.mk (show (([] : List S59).length + l0.length) * 24 ≤ 140737488355328 from by simp only [List.length_nil]; omega)
    clear hr0 hc0 c1
    go_enter Try.func25, Try.ntmps25
    go_wp2_with (first | (at_builtin; refine Kd.R_append_rows k59 (w0 := w) w.heap.size rfl (.tmp 5) (.tmp 6) 24 59 (.agg #[(.int .i64 0), (.int .i64 0), (.int .i64 0)]) 24 rfl Try.underlying24 info59 rfl (by decide) (by omega) (.slice (some ⟨w.heap.size, 0, none⟩) 0 0) [] l0 (some ad) _ _ (fun _ => True) (fun _ => False) rfl rfl ⟨fun _ _ => trivial, [], World.ownsRow_made w #[] 0 (Nat.le_refl _) (Nat.zero_le _) (by simp), Reps.none _ _⟩ (Kd.C_below HR.out (below_alloc (Below.refl _ _) _)) (fun _ _ h => h) (fun _ h => h.elim) (fun _ _ => trivial) (below_alloc (Below.refl _ _) _) (by simp) C1.out ?_; intro v1 w1 ho hb hg hat; clear hg hat; rw [List.nil_append] at ho; have HO := Aside0.mk ho; have HB := Aside0.mk hb; clear ho hb))
    go_ret
    exact ⟨_, rfl, HO.out, HB.out⟩

/-! ### drive_New: function 7 -/
theorem blk_new2 (w : World) (o o' : Obj) : ((w.alloc o).alloc o').heap[w.heap.size + 1]? = some o' := by
  have h := blk_new (w.alloc o) o'
  rw [show (w.alloc o).heap.size = w.heap.size + 1 from by simp] at h
  exact h
def drive_New.f (k : Nat) (D : List Int) (F : List S59) : Option Unit := (drive_Check.f k D F).bind fun c => if c = 0 ∧ D.length ≤ 65536 ∧ F.length ≤ 65536 then some () else none
set_option maxHeartbeats 4000000 in
set_option maxRecDepth 100000 in
theorem drive_New.calls (k : Nat) (A0 : Option Addr) (c0 : Nat) (D : List Int) (A1 : Option Addr) (c1 : Nat) (F : List S59) (w : World) (hr0 : Kd.C (Kd.int .u8) w A0 D.length D) (hc0 : D.length ≤ c0) (hr1 : Kd.C k59 w A1 F.length F) (hc1 : F.length ≤ c1) (h : drive_New.f k D F = some ()) :
    Calls Try.prog 7 #[.agg #[.slice A0 D.length c0, .slice A1 F.length c1]] w fun e w' => ∃ g, e = .returned (.tuple #[.pointer (some ⟨g, 0, none⟩), .int .i64 0]) ∧ IsDisk w.heap.size w'.heap.size w' g D F (fun _ => 0) 0 0 ∧ Below w.heap.size w w' := by
  unfold drive_New.f at h
  obtain ⟨c, h1, h⟩ := Option.bind_eq_some_iff.mp h
  split at h
  case isFalse => exact absurd h (by simp)
  case isTrue hh =>
  obtain ⟨rfl, q1, q2⟩ := hh
  have HF0 := Aside0.mk (show slices_Clone_byte_byte.f D = some D from by unfold slices_Clone_byte_byte.f; rw [if_pos (by omega)])
  have HF1 := Aside0.mk (show api_Fault.f F = some F from by unfold api_Fault.f; rw [if_pos (by omega)])
  have H1 := Aside0.mk h1
  have HR0 := Aside0.mk hr0
  have HR1 := Aside0.mk hr1
  have HC0 := Aside0.mk hc0
  have HC1 := Aside0.mk hc1
  clear h h1 hr0 hr1 hc0 hc1
  have hmm := @run_makeMap Try.prog
  go_enter Try.func7, Try.ntmps7
  go_upto_region 1 with (first | ((with_reducible refine gate_dst (N := 1) rfl ?_); refine box_event ?hg (N := 1) ?hd (cs := #[.slice A0 D.length c0, .slice A1 F.length c1]) (t := 26) ?hr ?_; (case hd => rfl); (case hg => rfl); (case hr => first | (go_simp; done) | (go_simp; rfl)); intro g1 hg W1 hbox hb; have BK1 := Aside0.mk hbox; have HB1 := Aside0.mk (below_step (Below.refl _ _) hb); clear hb hbox hg))
  have x0 : W1.cell? ⟨g1, 0, none⟩ = some (.slice A0 D.length c0) := (blk_cell BK1.out 0).trans rfl
  have x1 : W1.cell? ⟨g1, 1, none⟩ = some (.slice A1 F.length c1) := (blk_cell BK1.out 1).trans rfl
  go_upto_region 2 with (go_at_call 23; refine (drive_Check.calls k A0 c0 D A1 c1 F 0 _ (Kd.C_below HR0.out HB1.out) HC0.out (Kd.C_below HR1.out HB1.out) HC1.out H1.out).mono ?_; rintro e w2 ⟨rfl, hb⟩; have HB2 := Aside0.mk (below_step HB1.out hb); have BK2 := Aside0.mk (blk_below BK1.out hb); clear hb)
  clear x0 x1
  have x0 : w2.cell? ⟨g1, 0, none⟩ = some (.slice A0 D.length c0) := (blk_cell BK2.out 0).trans rfl
  have x1 : w2.cell? ⟨g1, 1, none⟩ = some (.slice A1 F.length c1) := (blk_cell BK2.out 1).trans rfl
  go_upto_region 4 with (fail)
  have hlt2 : g1 < w2.heap.size := blk_lt BK2.out
  have hne2 : g1 ≠ w2.heap.size := Nat.ne_of_lt hlt2
  go_region_with (first | (go_at_call 24; refine (slices_Clone_byte_byte.calls A0 c0 D D _ (Kd.C_below HR0.out (by repeat (first | (with_reducible first | exact HB2.out | apply below_alloc | apply pw_below_drewN | apply below_drew1) | exact HB2.out))) HC0.out HF0.out).mono ?_; rintro e w4 ⟨v4, rfl, hR, hb⟩; have HR4 := Aside0.mk hR; have HS4 := Aside0.mk hb; have HB4 := Aside0.mk (below_step (by repeat (first | (with_reducible first | exact HB2.out | apply below_alloc | apply pw_below_drewN | apply below_drew1) | exact HB2.out)) hb); have HC4 : Aside0 (Below w2.heap.size w2 w4) := ⟨below_step (by repeat (first | (with_reducible first | exact Below.refl _ _ | apply below_alloc | apply pw_below_drewN | apply below_drew1) | exact Below.refl _ _)) hb⟩; have x2 : w4.cell? ⟨g1, 1, none⟩ = some (.slice A1 F.length c1) := (HC4.out.cell (World.block_lt_of_cell? w2 _ x1)).trans x1; have hlt4 : g1 < w4.heap.size := Nat.lt_of_lt_of_le hlt2 HC4.out.size; have hne4 : g1 ≠ w4.heap.size := Nat.ne_of_lt hlt4; clear hR hb; obtain ⟨Aa, ca, ea⟩ := Kd.R_slice HR4.out; subst ea) | (go_at_call 25; refine (api_Fault.calls A1 c1 F F _ (Kd.C_below HR1.out (by repeat (first | (with_reducible first | exact HB4.out | apply below_alloc | apply pw_below_drewN | apply below_drew1) | exact HB4.out))) HC1.out HF1.out).mono ?_; rintro e w5 ⟨v5, rfl, hR, hb⟩; have HR5 := Aside0.mk hR; have HS5 := Aside0.mk hb; have HB5 := Aside0.mk (below_step (by repeat (first | (with_reducible first | exact HB4.out | apply below_alloc | apply pw_below_drewN | apply below_drew1) | exact HB4.out)) hb); clear hR hb; obtain ⟨Ab, cb, eb⟩ := Kd.R_slice HR5.out; subst eb))
  all_goals
    have S4 := HS4.out.size
    have S5 := HS5.out.size
    have HC5 := Aside0.mk (below_step (by repeat (first | (with_reducible first | exact Below.refl _ _ | apply below_alloc | apply pw_below_drewN | apply below_drew1) | exact Below.refl _ _)) HS5.out : Below w4.heap.size w4 w5)
    try simp at S4
    try simp at S5
    go_wp2
    go_ret2
    refine ⟨_, rfl, ⟨Aa, ca, Ab, cb, _, (by first | exact blk_new _ _ | exact blk_new2 _ _ _), ?_, ?_, ?_, ?_, ?_, ?_⟩, ?_⟩
    · refine ⟨?_, by simp⟩
      first | exact below_size HB5.out | exact below_size (below_alloc HB5.out _) | (have := below_size HB5.out; omega)
    · refine ⟨?_, by simp <;> omega⟩
      first | exact below_size HB5.out | exact below_size HB4.out | exact below_size HB2.out
    · simp <;> omega
    · refine Kd.R_lower (Kd.R_mono (Kd.R_below (Kd.R_below (Kd.R_bound HR4.out) HC5.out) (by repeat (first | (with_reducible first | exact Below.refl _ _ | apply below_alloc | apply pw_below_drewN | apply below_drew1) | exact Below.refl _ _))) (fun k hk => ?_)) (by (try simp); have := below_size HB2.out; have := below_size HB4.out; omega)
      have h1 := hk.2.1
      have h2 := hk.2.2.1
      try simp at h1
      refine ⟨?_, ?_, ?_⟩ <;> (simp; omega)
    · refine Kd.R_lower (Kd.R_mono (Kd.R_below (Kd.R_bound HR5.out) (by repeat (first | (with_reducible first | exact Below.refl _ _ | apply below_alloc | apply pw_below_drewN | apply below_drew1) | exact Below.refl _ _))) (fun k hk => ?_)) (by (try simp); have := below_size HB2.out; have := below_size HB4.out; omega)
      have h1 := hk.2.1
      have h2 := hk.2.2.1
      try simp at h1
      refine ⟨?_, ?_, ?_⟩ <;> (simp; omega)
    · refine (MapF.made _).below ?_
      repeat (first | (with_reducible first | exact Below.refl _ _ | apply below_alloc | apply pw_below_drewN | apply below_drew1) | exact Below.refl _ _ | refine below_step ?_ HS5.out | refine below_step ?_ HS4.out)
    · exact (by repeat (first | (with_reducible first | exact HB5.out | apply below_alloc | apply pw_below_drewN | apply below_drew1) | exact HB5.out))

/-! ### drive_Disk_Blocks: function 10 -/
theorem drive_Disk_Blocks.calls (m n : Nat) (g : Nat) (D : List Int) (F : List S59) (mp : Int → Int) (N : Nat) (tm : Int) (w : World) (hI : IsDisk m n w g D F mp N tm) :
    Calls Try.prog 10 #[.pointer (some ⟨g, 0, none⟩)] w fun e w' => e = .returned (.int .i64 ((D.length : Int) / 64)) ∧ w = w' := by
  obtain ⟨A, c, B, d, b, h1, h2, h3, h4, h5, h6, h7⟩ := hI
  have x0 : w.cell? ⟨g, 0, none⟩ = some (.slice A D.length c) := (blk_cell h1 0).trans rfl
  have hmax := (Kd.R_reads' h5).2.2.2.1
  unfold maxLen at hmax
  clear h1 h2 h3 h4 h5 h6 h7
  go_enter Try.func10, Try.ntmps10
  go_wp2
  go_ret
  exact ⟨rfl, rfl⟩

/-! ### drive_Disk_Time: function 15 -/
theorem drive_Disk_Time.calls (m n : Nat) (g : Nat) (D : List Int) (F : List S59) (mp : Int → Int) (N : Nat) (tm : Int) (w : World) (hI : IsDisk m n w g D F mp N tm) :
    Calls Try.prog 15 #[.pointer (some ⟨g, 0, none⟩)] w fun e w' => e = .returned (.int .i64 tm) ∧ w = w' := by
  obtain ⟨A, c, B, d, b, h1, h2, h3, h4, h5, h6, h7⟩ := hI
  have x0 : w.cell? ⟨g, 3, none⟩ = some (.int .i64 tm) := (blk_cell h1 3).trans rfl
  clear h1 h2 h3 h4 h5 h6 h7
  go_enter Try.func15, Try.ntmps15
  go_wp2
  go_ret
  exact ⟨rfl, rfl⟩

/-! ### pass_Check: function 27 -/
def pass_Check.f (a0_0 : Int) (a0_1 : Int) : Option (Int) := if a0_0 < 0 then (some 4) else (if a0_0 > 64 then (some 4) else (if a0_1 < 1 then (some 4) else (if a0_1 > 16 then (some 4) else (some 0))))
set_option maxHeartbeats 8000000 in
set_option maxRecDepth 100000 in
theorem pass_Check.calls (a0_0 : Int) (a0_1 : Int) (r : Int) (w : World) (h : pass_Check.f a0_0 a0_1 = some r) :
    Calls Try.prog 27 #[.agg #[.int .i64 a0_0, .int .i64 a0_1]] w fun e w' => e = .returned (.int .i64 r) ∧ Below w.heap.size w w' := by
  have hu43 := Try.underlying43
  have HB := Aside0.mk (Below.refl w.heap.size w)
  have H : (if a0_0 < 0 then (some 4) else (if a0_0 > 64 then (some 4) else (if a0_1 < 1 then (some 4) else (if a0_1 > 16 then (some 4) else (some 0))))) = some r := h
  clear h
  by_cases c2 : a0_0 < 0
  · rw [if_pos c2] at H
    have c2b0 : decide (a0_0 < 0) = true := decide_eq_true c2
    clear c2
    obtain rfl := Option.some.inj H
    go_enter Try.func27, Try.ntmps27
    go_wp2_with (first | ((with_reducible refine gate_dst (N := 1) rfl ?_); refine box_event ?hg (N := 1) ?hd (cs := #[.int .i64 a0_0, .int .i64 a0_1]) (t := 43) ?hr ?_; (case hd => rfl); (case hg => rfl); (case hr => first | (go_simp; done) | (go_simp; rfl)); intro gb139 hg w3 hbox hb; have n0_ := Aside0.mk (below_step (by repeat (first | (with_reducible first | exact HB.out | apply below_alloc | apply pw_below_drewN | apply below_drew1) | exact HB.out)) hb); have n1_ := Aside0.mk (hbox); have n2_ := Aside0.mk ((by rw [hg]; exact (below_size (by repeat (first | (with_reducible first | exact HB.out | apply below_alloc | apply pw_below_drewN | apply below_drew1) | exact HB.out))) : w.heap.size ≤ gb139)); have n3_ := Aside0.mk ((by rw [hg]; exact (below_size (by repeat (first | (with_reducible first | exact HB.out | apply below_alloc | apply pw_below_drewN | apply below_drew1) | exact HB.out))) : w.heap.size ≤ gb139)); clear HB; have HB := n0_; have BK139 := n1_; have GW139 := n2_; have GE139 := n3_; clear n0_ n1_ n2_ n3_; clear hb hbox hg; have hcz4_0 : w3.cell? ⟨gb139, 0, none⟩ = some (.int .i64 a0_0) := (blk_cell BK139.out 0).trans rfl; have hcz4_1 : w3.cell? ⟨gb139, 1, none⟩ = some (.int .i64 a0_1) := (blk_cell BK139.out 1).trans rfl; have hfz4_0 := blk_frozen BK139.out 0; have hfz4_1 := blk_frozen BK139.out 1))
    go_ret
    exact ⟨by first | rfl | (simp [errW_none, errW_some] <;> rfl) | (simp [*, errW_none, errW_some] <;> rfl), by repeat (first | (with_reducible first | exact HB.out | apply below_alloc | apply pw_below_drewN | apply below_drew1 | refine below_set ?_ GE139.out) | exact HB.out)⟩
  · rw [if_neg c2] at H
    have c2b0 : decide (a0_0 < 0) = false := decide_eq_false c2
    clear c2
    by_cases c5 : a0_0 > 64
    · rw [if_pos c5] at H
      have c5b0 : decide (64 < a0_0) = true := decide_eq_true c5
      clear c5
      obtain rfl := Option.some.inj H
      go_enter Try.func27, Try.ntmps27
      go_wp2_with (first | ((with_reducible refine gate_dst (N := 1) rfl ?_); refine box_event ?hg (N := 1) ?hd (cs := #[.int .i64 a0_0, .int .i64 a0_1]) (t := 43) ?hr ?_; (case hd => rfl); (case hg => rfl); (case hr => first | (go_simp; done) | (go_simp; rfl)); intro gb139 hg w6 hbox hb; have n0_ := Aside0.mk (below_step (by repeat (first | (with_reducible first | exact HB.out | apply below_alloc | apply pw_below_drewN | apply below_drew1) | exact HB.out)) hb); have n1_ := Aside0.mk (hbox); have n2_ := Aside0.mk ((by rw [hg]; exact (below_size (by repeat (first | (with_reducible first | exact HB.out | apply below_alloc | apply pw_below_drewN | apply below_drew1) | exact HB.out))) : w.heap.size ≤ gb139)); have n3_ := Aside0.mk ((by rw [hg]; exact (below_size (by repeat (first | (with_reducible first | exact HB.out | apply below_alloc | apply pw_below_drewN | apply below_drew1) | exact HB.out))) : w.heap.size ≤ gb139)); clear HB; have HB := n0_; have BK139 := n1_; have GW139 := n2_; have GE139 := n3_; clear n0_ n1_ n2_ n3_; clear hb hbox hg; have hcz7_0 : w6.cell? ⟨gb139, 0, none⟩ = some (.int .i64 a0_0) := (blk_cell BK139.out 0).trans rfl; have hcz7_1 : w6.cell? ⟨gb139, 1, none⟩ = some (.int .i64 a0_1) := (blk_cell BK139.out 1).trans rfl; have hfz7_0 := blk_frozen BK139.out 0; have hfz7_1 := blk_frozen BK139.out 1))
      go_ret
      exact ⟨by first | rfl | (simp [errW_none, errW_some] <;> rfl) | (simp [*, errW_none, errW_some] <;> rfl), by repeat (first | (with_reducible first | exact HB.out | apply below_alloc | apply pw_below_drewN | apply below_drew1 | refine below_set ?_ GE139.out) | exact HB.out)⟩
    · rw [if_neg c5] at H
      have c5b0 : decide (64 < a0_0) = false := decide_eq_false c5
      clear c5
      by_cases c8 : a0_1 < 1
      · rw [if_pos c8] at H
        have c8b0 : decide (a0_1 < 1) = true := decide_eq_true c8
        clear c8
        obtain rfl := Option.some.inj H
        go_enter Try.func27, Try.ntmps27
        go_wp2_with (first | ((with_reducible refine gate_dst (N := 1) rfl ?_); refine box_event ?hg (N := 1) ?hd (cs := #[.int .i64 a0_0, .int .i64 a0_1]) (t := 43) ?hr ?_; (case hd => rfl); (case hg => rfl); (case hr => first | (go_simp; done) | (go_simp; rfl)); intro gb139 hg w9 hbox hb; have n0_ := Aside0.mk (below_step (by repeat (first | (with_reducible first | exact HB.out | apply below_alloc | apply pw_below_drewN | apply below_drew1) | exact HB.out)) hb); have n1_ := Aside0.mk (hbox); have n2_ := Aside0.mk ((by rw [hg]; exact (below_size (by repeat (first | (with_reducible first | exact HB.out | apply below_alloc | apply pw_below_drewN | apply below_drew1) | exact HB.out))) : w.heap.size ≤ gb139)); have n3_ := Aside0.mk ((by rw [hg]; exact (below_size (by repeat (first | (with_reducible first | exact HB.out | apply below_alloc | apply pw_below_drewN | apply below_drew1) | exact HB.out))) : w.heap.size ≤ gb139)); clear HB; have HB := n0_; have BK139 := n1_; have GW139 := n2_; have GE139 := n3_; clear n0_ n1_ n2_ n3_; clear hb hbox hg; have hcz10_0 : w9.cell? ⟨gb139, 0, none⟩ = some (.int .i64 a0_0) := (blk_cell BK139.out 0).trans rfl; have hcz10_1 : w9.cell? ⟨gb139, 1, none⟩ = some (.int .i64 a0_1) := (blk_cell BK139.out 1).trans rfl; have hfz10_0 := blk_frozen BK139.out 0; have hfz10_1 := blk_frozen BK139.out 1))
        go_ret
        exact ⟨by first | rfl | (simp [errW_none, errW_some] <;> rfl) | (simp [*, errW_none, errW_some] <;> rfl), by repeat (first | (with_reducible first | exact HB.out | apply below_alloc | apply pw_below_drewN | apply below_drew1 | refine below_set ?_ GE139.out) | exact HB.out)⟩
      · rw [if_neg c8] at H
        have c8b0 : decide (a0_1 < 1) = false := decide_eq_false c8
        clear c8
        by_cases c11 : a0_1 > 16
        · rw [if_pos c11] at H
          have c11b0 : decide (16 < a0_1) = true := decide_eq_true c11
          clear c11
          obtain rfl := Option.some.inj H
          go_enter Try.func27, Try.ntmps27
          go_wp2_with (first | ((with_reducible refine gate_dst (N := 1) rfl ?_); refine box_event ?hg (N := 1) ?hd (cs := #[.int .i64 a0_0, .int .i64 a0_1]) (t := 43) ?hr ?_; (case hd => rfl); (case hg => rfl); (case hr => first | (go_simp; done) | (go_simp; rfl)); intro gb139 hg w12 hbox hb; have n0_ := Aside0.mk (below_step (by repeat (first | (with_reducible first | exact HB.out | apply below_alloc | apply pw_below_drewN | apply below_drew1) | exact HB.out)) hb); have n1_ := Aside0.mk (hbox); have n2_ := Aside0.mk ((by rw [hg]; exact (below_size (by repeat (first | (with_reducible first | exact HB.out | apply below_alloc | apply pw_below_drewN | apply below_drew1) | exact HB.out))) : w.heap.size ≤ gb139)); have n3_ := Aside0.mk ((by rw [hg]; exact (below_size (by repeat (first | (with_reducible first | exact HB.out | apply below_alloc | apply pw_below_drewN | apply below_drew1) | exact HB.out))) : w.heap.size ≤ gb139)); clear HB; have HB := n0_; have BK139 := n1_; have GW139 := n2_; have GE139 := n3_; clear n0_ n1_ n2_ n3_; clear hb hbox hg; have hcz13_0 : w12.cell? ⟨gb139, 0, none⟩ = some (.int .i64 a0_0) := (blk_cell BK139.out 0).trans rfl; have hcz13_1 : w12.cell? ⟨gb139, 1, none⟩ = some (.int .i64 a0_1) := (blk_cell BK139.out 1).trans rfl; have hfz13_0 := blk_frozen BK139.out 0; have hfz13_1 := blk_frozen BK139.out 1))
          go_ret
          exact ⟨by first | rfl | (simp [errW_none, errW_some] <;> rfl) | (simp [*, errW_none, errW_some] <;> rfl), by repeat (first | (with_reducible first | exact HB.out | apply below_alloc | apply pw_below_drewN | apply below_drew1 | refine below_set ?_ GE139.out) | exact HB.out)⟩
        · rw [if_neg c11] at H
          have c11b0 : decide (16 < a0_1) = false := decide_eq_false c11
          clear c11
          obtain rfl := Option.some.inj H
          go_enter Try.func27, Try.ntmps27
          go_wp2_with (first | ((with_reducible refine gate_dst (N := 1) rfl ?_); refine box_event ?hg (N := 1) ?hd (cs := #[.int .i64 a0_0, .int .i64 a0_1]) (t := 43) ?hr ?_; (case hd => rfl); (case hg => rfl); (case hr => first | (go_simp; done) | (go_simp; rfl)); intro gb139 hg w14 hbox hb; have n0_ := Aside0.mk (below_step (by repeat (first | (with_reducible first | exact HB.out | apply below_alloc | apply pw_below_drewN | apply below_drew1) | exact HB.out)) hb); have n1_ := Aside0.mk (hbox); have n2_ := Aside0.mk ((by rw [hg]; exact (below_size (by repeat (first | (with_reducible first | exact HB.out | apply below_alloc | apply pw_below_drewN | apply below_drew1) | exact HB.out))) : w.heap.size ≤ gb139)); have n3_ := Aside0.mk ((by rw [hg]; exact (below_size (by repeat (first | (with_reducible first | exact HB.out | apply below_alloc | apply pw_below_drewN | apply below_drew1) | exact HB.out))) : w.heap.size ≤ gb139)); clear HB; have HB := n0_; have BK139 := n1_; have GW139 := n2_; have GE139 := n3_; clear n0_ n1_ n2_ n3_; clear hb hbox hg; have hcz15_0 : w14.cell? ⟨gb139, 0, none⟩ = some (.int .i64 a0_0) := (blk_cell BK139.out 0).trans rfl; have hcz15_1 : w14.cell? ⟨gb139, 1, none⟩ = some (.int .i64 a0_1) := (blk_cell BK139.out 1).trans rfl; have hfz15_0 := blk_frozen BK139.out 0; have hfz15_1 := blk_frozen BK139.out 1))
          go_ret
          exact ⟨by first | rfl | (simp [errW_none, errW_some] <;> rfl) | (simp [*, errW_none, errW_some] <;> rfl), by repeat (first | (with_reducible first | exact HB.out | apply below_alloc | apply pw_below_drewN | apply below_drew1 | refine below_set ?_ GE139.out) | exact HB.out)⟩

/-! ### api_Fault_int: function 38 -/
/-- Where the halves meet: d rounds at most. -/
def bs (F : List S59) (t : Int) : Nat → Nat → Nat → Nat
  | 0, i, _ => i
  | d + 1, i, j => if i < j then (if wrap64 ((rd_T59 F (((i + j) / 2 : Nat) : Int)).f0 - t) < 0 then bs F t d ((i + j) / 2 + 1) j else bs F t d i ((i + j) / 2)) else i
theorem bs_le (F : List S59) (t : Int) : ∀ (d i j : Nat), i ≤ j → bs F t d i j ≤ j
  | 0, _, _, h => h
  | d + 1, i, j, h => by
    unfold bs
    split
    · split
      · exact bs_le F t d _ j (by omega)
      · exact Nat.le_trans (bs_le F t d i _ (by omega)) (by omega)
    · exact h
def api_Fault_int.f (k : Nat) (l0 : List S59) (a1 : Int) (a2 : Nat) : Option (Int × Bool) := if a2 = 39 ∧ l0.length ≤ 65536 then some ((bs l0 a1 l0.length 0 l0.length : Nat), decide (bs l0 a1 l0.length 0 l0.length < l0.length) && (wrap64 ((rd_T59 l0 ((bs l0 a1 l0.length 0 l0.length : Nat) : Int)).f0 - a1) == 0)) else none
theorem api_Fault_int.clos (f0 f1 f2 t : Int) (w : World) : Calls Try.prog 39 #[.agg #[.int .i64 f0, .int .i64 f1, .int .i64 f2], .int .i64 t] w fun e w' => e = .returned (.int .i64 (wrap64 (f0 - t))) ∧ Below w.heap.size w w' := by
  go_enter Try.func39, Try.ntmps39
  go_wp2
  go_ret
  exact ⟨by first | rfl | simp, by repeat (first | (with_reducible first | exact Below.refl _ _ | apply below_alloc | apply pw_below_drewN | apply below_drew1) | exact Below.refl _ _)⟩
set_option maxHeartbeats 2000000 in
set_option maxRecDepth 100000 in
theorem api_Fault_int.calls (k : Nat) (A0 : Option Addr) (c0 : Nat) (l0 : List S59) (a1 : Int) (a2 : Nat) (r1 : Int) (r2 : Bool) (w : World) (hr0 : Kd.C k59 w A0 l0.length l0) (hc0 : l0.length ≤ c0) (h : api_Fault_int.f k l0 a1 a2 = some (r1, r2)) :
    Calls Try.prog 38 #[.slice A0 l0.length c0, .int .i64 a1, .func (.func a2) #[] #[]] w fun e w' => e = .returned (.tuple #[.int .i64 r1, .bool r2]) ∧ Below w.heap.size w w' := by
  unfold api_Fault_int.f at h
  split at h
  case isFalse => exact absurd h (by simp)
  case isTrue hh =>
  obtain ⟨rfl, q2⟩ := hh
  obtain ⟨e1, e2⟩ := Prod.mk.inj (Option.some.inj h)
  obtain ⟨I, hI⟩ : ∃ I, bs l0 a1 l0.length 0 l0.length = I := ⟨_, rfl⟩
  rw [hI] at e1 e2
  subst e1
  have HIL := Aside0.mk (show I ≤ l0.length from hI ▸ bs_le l0 a1 l0.length 0 l0.length (Nat.zero_le _))
  have HI := Aside0.mk hI
  have HR := Aside0.mk hr0
  have E2 := Aside0.mk e2
  have HB : Aside0 (Below w.heap.size w w) := ⟨Below.refl _ _⟩
  clear h hI hr0 hc0 e2
  go_enter Try.func38, Try.ntmps38
  go_wp2
  go_loopw [9, 10] (fun i j wr => ∃ (x y d : Nat), x ≤ y ∧ y ≤ l0.length ∧ y - x ≤ d ∧ Aside0 (bs l0 a1 d x y = I) ∧ i = .int .i64 x ∧ j = .int .i64 y ∧ Aside0 (Below w.heap.size w wr)) (fun i j _ => (intOf j).toNat - (intOf i).toNat)
  case atStart => exact ⟨0, l0.length, l0.length, Nat.zero_le _, Nat.le_refl _, by omega, HI, rfl, rfl, HB⟩
  case round =>
    clear HB
    obtain ⟨x, y, d, h1, h2, h3, H4, rfl, rfl, HBr⟩ := hrel
    by_cases hlt : x < y
    · obtain ⟨m, hm⟩ : ∃ m, (x + y) / 2 = m := ⟨_, rfl⟩
      obtain ⟨d, rfl⟩ : ∃ d', d = d' + 1 := ⟨d - 1, by omega⟩
      have h4 := H4.out
      unfold bs at h4
      rw [if_pos hlt, hm] at h4
      obtain ⟨ad, e1, y0, y1, y2⟩ := at_T59 HR.out (m : Int) (by omega) (by omega)
      cases e1
      rw [Int.toNat_natCast] at y0 y1 y2
      replace y0 := (HBr.out.cell (World.block_lt_of_cell? w _ y0)).trans y0
      replace y1 := (HBr.out.cell (World.block_lt_of_cell? w _ y1)).trans y1
      replace y2 := (HBr.out.cell (World.block_lt_of_cell? w _ y2)).trans y2
      generalize (rd_T59 l0 (m : Int)).f0 = f0 at *
      generalize (rd_T59 l0 (m : Int)).f1 = f1 at *
      generalize (rd_T59 l0 (m : Int)).f2 = f2 at *
      have hm1 : m ≤ l0.length := by omega
      have hm2 : x ≤ m ∧ m < y := by omega
      go_upto_region 5 with (fail)
      have em : ((x : Int) + (y : Int)) / 2 = (m : Int) := by omega
      rw [em]
      clear em
      by_cases hc : wrap64 (f0 - a1) < 0
      · rw [if_pos hc] at h4
        have H4' := Aside0.mk h4
        clear H4 h4
        have t1 : decide (wrap64 (f0 - a1) < 0) = true := decide_eq_true hc
        clear hc
        go_wp2_with (go_at_call 39; refine (api_Fault_int.clos f0 f1 f2 a1 _).mono ?_; rintro e w2 ⟨rfl, hb⟩; have HB2 := Aside0.mk (below_step HBr.out hb); clear hb)
        go_roundw
        case rel => exact ⟨m + 1, y, d, by omega, by omega, by omega, H4', by go_num, rfl, HB2⟩
        case measure => simp [intOf]; omega
      · rw [if_neg hc] at h4
        have H4' := Aside0.mk h4
        clear H4 h4
        have t1 : decide (wrap64 (f0 - a1) < 0) = false := decide_eq_false hc
        clear hc
        go_wp2_with (go_at_call 39; refine (api_Fault_int.clos f0 f1 f2 a1 _).mono ?_; rintro e w2 ⟨rfl, hb⟩; have HB2 := Aside0.mk (below_step HBr.out hb); clear hb)
        go_roundw
        case rel => exact ⟨x, m, d, by omega, by omega, by omega, H4', rfl, rfl, HB2⟩
        case measure => simp [intOf]; omega
    · have h4 : I = x := by
        have := H4.out
        cases d with
        | zero => exact this.symm
        | succ d => unfold bs at this; rw [if_neg hlt] at this; exact this.symm
      subst h4
      clear H4
      have t0 : decide ((I : Int) < (y : Int)) = false := decide_eq_false (by omega)
      have t0b : decide (I < y) = false := decide_eq_false hlt
      have e2 := E2.out
      by_cases hI2 : I < l0.length
      · obtain ⟨ad, e1, y0, y1, y2⟩ := at_T59 HR.out (I : Int) (by omega) (by omega)
        cases e1
        rw [Int.toNat_natCast] at y0 y1 y2
        replace y0 := (HBr.out.cell (World.block_lt_of_cell? w _ y0)).trans y0
        replace y1 := (HBr.out.cell (World.block_lt_of_cell? w _ y1)).trans y1
        replace y2 := (HBr.out.cell (World.block_lt_of_cell? w _ y2)).trans y2
        generalize (rd_T59 l0 (I : Int)).f0 = f0 at *
        generalize (rd_T59 l0 (I : Int)).f1 = f1 at *
        generalize (rd_T59 l0 (I : Int)).f2 = f2 at *
        rw [decide_eq_true hI2, Bool.true_and] at e2
        obtain ⟨z, hz⟩ : ∃ z, wrap64 (f0 - a1) = z := ⟨_, rfl⟩
        have C := api_Fault_int.clos f0 f1 f2 a1
        rw [hz] at e2 C
        have CC := Aside0.mk C
        subst e2
        have t3 : decide ((I : Int) < (l0.length : Int)) = true := decide_eq_true (by omega)
        have t4 : decide (I < l0.length) = true := decide_eq_true hI2
        clear C hz hlt E2
        go_wp2_with (go_at_call 39; refine (CC.out _).mono ?_; rintro e w2 ⟨rfl, hb⟩; have HB2 := Aside0.mk (below_step HBr.out hb); clear hb)
        go_ret2
        exact ⟨by first | rfl | simp, HB2.out⟩
      · rw [decide_eq_false hI2, Bool.false_and] at e2
        subst e2
        clear hlt E2
        have t1 : decide ((I : Int) < (l0.length : Int)) = false := decide_eq_false (by omega)
        have t2 : decide (I < l0.length) = false := decide_eq_false hI2
        go_wp2
        go_ret2
        exact ⟨by first | rfl | simp, HBr.out⟩

/-! ### drive_fault: function 35 -/
def drive_fault.f (k : Nat) (l0_0 : List Int) (l0_1 : List (S59)) (a1 : Int) : Option (Int × Int × Int) := (api_Fault_int.f k l0_1 a1 39).bind fun bt142 => (if bt142.2 = true then (if 0 ≤ bt142.1 then (if bt142.1 < (l0_1.length : Int) then (some ((rd_T59 l0_1 bt142.1).f0, (rd_T59 l0_1 bt142.1).f1, (rd_T59 l0_1 bt142.1).f2)) else (none)) else (none)) else (some (0, 0, 0)))
theorem drive_fault.mono : ∀ a0 a1 a2 k, LeO (drive_fault.f k a0 a1 a2) (drive_fault.f (k + 1) a0 a1 a2) := by
  intro a0 a1 a2 k
  unfold drive_fault.f
  repeat' first
      | (with_reducible exact api_Fault_int.mono _ _ _ _)
      | (with_reducible exact LeO.refl _)
      | (with_reducible exact LeO.none _)
      | (with_reducible refine LeO.ite ?_ ?_)
      | (with_reducible refine LeO.bind ?_ (fun _ => ?_))
      | exact api_Fault_int.mono _ _ _ _
      | exact LeO.none _
      | refine LeO.ite ?_ ?_
      | refine LeO.bind ?_ (fun _ => ?_)
set_option maxHeartbeats 8000000 in
set_option maxRecDepth 100000 in
theorem drive_fault.calls (k : Nat) (A0_0 : Option Addr) (c0_0 : Nat) (l0_0 : List Int) (A0_1 : Option Addr) (c0_1 : Nat) (l0_1 : List (S59)) (a1 : Int) (r1 : Int) (r2 : Int) (r3 : Int) (w : World) (hr0_0 : Kd.C (Kd.int .u8) w A0_0 l0_0.length l0_0) (hc0_0 : l0_0.length ≤ c0_0) (hr0_1 : Kd.C k59 w A0_1 l0_1.length l0_1) (hc0_1 : l0_1.length ≤ c0_1) (h : drive_fault.f k l0_0 l0_1 a1 = some (r1, r2, r3)) :
    Calls Try.prog 35 #[.agg #[.slice A0_0 l0_0.length c0_0, .slice A0_1 l0_1.length c0_1], .int .i64 a1] w fun e w' => e = .returned (.agg #[.int .i64 r1, .int .i64 r2, .int .i64 r3]) ∧ Below w.heap.size w w' := by
  have hu26 := Try.underlying26
  have hu59 := Try.underlying59
  have HR0_0 := Aside0.mk hr0_0
  have HC0_0 := Aside0.mk hc0_0
  clear hr0_0 hc0_0
  have HR0_1 := Aside0.mk hr0_1
  have HC0_1 := Aside0.mk hc0_1
  clear hr0_1 hc0_1
  have HB := Aside0.mk (Below.refl w.heap.size w)
  have H : ((api_Fault_int.f k l0_1 a1 39).bind fun bt142 => (if bt142.2 = true then (if 0 ≤ bt142.1 then (if bt142.1 < (l0_1.length : Int) then (some ((rd_T59 l0_1 bt142.1).f0, (rd_T59 l0_1 bt142.1).f1, (rd_T59 l0_1 bt142.1).f2)) else (none)) else (none)) else (some (0, 0, 0)))) = some (r1, r2, r3) := h
  clear h
  replace H := Option.bind_eq_some_iff.mp H
  obtain ⟨⟨t142, t143⟩, A30, H⟩ := H
  replace H : (if t143 = true then (if 0 ≤ t142 then (if t142 < (l0_1.length : Int) then (some ((rd_T59 l0_1 t142).f0, (rd_T59 l0_1 t142).f1, (rd_T59 l0_1 t142).f2)) else (none)) else (none)) else (some (0, 0, 0))) = some (r1, r2, r3) := H
  have A3 := Aside0.mk A30
  clear A30
  by_cases c4 : t143 = true
  · subst c4
    have H1 : (if 0 ≤ t142 then (if t142 < (l0_1.length : Int) then (some ((rd_T59 l0_1 t142).f0, (rd_T59 l0_1 t142).f1, (rd_T59 l0_1 t142).f2)) else (none)) else (none)) = some (r1, r2, r3) := by rw [if_pos rfl] at H; exact H
    clear H
    have H := H1
    clear H1
    by_cases c5 : 0 ≤ t142
    · rw [if_pos c5] at H
      have c5b0 : decide (0 ≤ t142) = true := decide_eq_true c5
      clear c5
      by_cases c6 : t142 < (l0_1.length : Int)
      · rw [if_pos c6] at H
        have c6b0 : decide (t142 < (l0_1.length : Int)) = true := decide_eq_true c6
        clear c6
        simp only [Option.some.injEq, Prod.mk.injEq] at H
        obtain ⟨rfl, rfl, rfl⟩ := H
        go_enter Try.func35, Try.ntmps35
        go_wp2_with (first | ((with_reducible refine gate_dst (N := 2) rfl ?_); refine box_event ?hg (N := 2) ?hd (cs := #[.slice A0_0 l0_0.length c0_0, .slice A0_1 l0_1.length c0_1]) (t := 26) ?hr ?_; (case hd => rfl); (case hg => rfl); (case hr => first | (go_simp; done) | (go_simp; rfl)); intro gb140 hg w7 hbox hb; have n0_ := Aside0.mk (below_step (by repeat (first | (with_reducible first | exact HB.out | apply below_alloc | apply pw_below_drewN | apply below_drew1) | exact HB.out)) hb); have n1_ := Aside0.mk (hbox); have n2_ := Aside0.mk ((by rw [hg]; exact (below_size (by repeat (first | (with_reducible first | exact HB.out | apply below_alloc | apply pw_below_drewN | apply below_drew1) | exact HB.out))) : w.heap.size ≤ gb140)); have n3_ := Aside0.mk ((by rw [hg]; exact (below_size (by repeat (first | (with_reducible first | exact HB.out | apply below_alloc | apply pw_below_drewN | apply below_drew1) | exact HB.out))) : w.heap.size ≤ gb140)); clear HB; have HB := n0_; have BK140 := n1_; have GW140 := n2_; have GE140 := n3_; clear n0_ n1_ n2_ n3_; clear hb hbox hg) | ((with_reducible refine gate_dst (N := 4) rfl ?_); refine box_event ?hg (N := 4) ?hd (cs := #[.int .i64 0, .int .i64 0, .int .i64 0]) (t := 59) ?hr ?_; (case hd => rfl); (case hg => rfl); (case hr => first | (go_simp; done) | (go_simp; rfl)); intro gb141 hg w8 hbox hb; have n0_ := Aside0.mk (blk_below (g := gb140) (o := .cells #[.slice A0_0 l0_0.length c0_0, .slice A0_1 l0_1.length c0_1] 26 (0, 0)) (by (with_reducible repeat (first | refine blk_drewN ?_ _ | refine blk_drew ?_ | refine blk_alloc ?_ _)); exact BK140.out) hb); have n1_ := Aside0.mk (below_step (by repeat (first | (with_reducible first | exact HB.out | apply below_alloc | apply pw_below_drewN | apply below_drew1 | refine below_set ?_ GE140.out) | exact HB.out)) hb); have n2_ := Aside0.mk (hbox); have n3_ := Aside0.mk ((by rw [hg]; exact (below_size (by repeat (first | (with_reducible first | exact HB.out | apply below_alloc | apply pw_below_drewN | apply below_drew1 | refine below_set ?_ GE140.out) | exact HB.out))) : w.heap.size ≤ gb141)); have n4_ := Aside0.mk ((by rw [hg]; exact (below_size (by repeat (first | (with_reducible first | exact HB.out | apply below_alloc | apply pw_below_drewN | apply below_drew1 | refine below_set ?_ GE140.out) | exact HB.out))) : w.heap.size ≤ gb141)); have n5_ := Aside0.mk ((by rw [hg]; exact Nat.ne_of_lt (blk_lt (g := gb140) (o := .cells #[.slice A0_0 l0_0.length c0_0, .slice A0_1 l0_1.length c0_1] 26 (0, 0)) (by (with_reducible repeat (first | refine blk_drewN ?_ _ | refine blk_drew ?_ | refine blk_alloc ?_ _)); exact BK140.out)) : gb140 ≠ gb141)); have n6_ := Aside0.mk ((by rw [hg]; exact Nat.ne_of_gt (blk_lt (g := gb140) (o := .cells #[.slice A0_0 l0_0.length c0_0, .slice A0_1 l0_1.length c0_1] 26 (0, 0)) (by (with_reducible repeat (first | refine blk_drewN ?_ _ | refine blk_drew ?_ | refine blk_alloc ?_ _)); exact BK140.out)) : gb141 ≠ gb140)); clear BK140; clear HB; have BK140 := n0_; have HB := n1_; have BK141 := n2_; have GW141 := n3_; have GE141 := n4_; have NB140_141 := n5_; have NB141_140 := n6_; clear n0_ n1_ n2_ n3_ n4_ n5_ n6_; clear hb hbox hg; have hnb9 := NB140_141.out; have hnc9 := NB141_140.out; have hcz10_0 : w8.cell? ⟨gb140, 0, none⟩ = some (.slice A0_0 l0_0.length c0_0) := (blk_cell BK140.out 0).trans rfl; have hcz10_1 : w8.cell? ⟨gb140, 1, none⟩ = some (.slice A0_1 l0_1.length c0_1) := (blk_cell BK140.out 1).trans rfl; have hfz10_0 := blk_frozen BK140.out 0; have hfz10_1 := blk_frozen BK140.out 1) | ((with_reducible refine gate_callee (f := 38) rfl ?_); refine goesL_ (some 11) rfl rfl Try.func38 (by kernel_rfl) rfl #[.slice A0_1 l0_1.length c0_1, .int .i64 a1, .func (.func 39) #[] #[]] rfl (by (try simp only [List.map_toArray, List.map_cons, List.map_nil]); first | done | rfl | (simp only [List.length_drop, List.length_take]; rfl)) ?_; (with_reducible refine (api_Fault_int.calls k _ _ l0_1 a1 39 t142 true _ ?side1 ?side2 A3.out).mono ?_); (case side1 => repeat (first | exact (Kd.C_below HR0_1.out HB.out) | (with_reducible refine Kd.C_alloc ?_ _) | (with_reducible refine Kd.C_drewN ?_ _) | (with_reducible refine Kd.C_drew ?_))); (case side2 => exact HC0_1.out); rintro e w11 ⟨rfl, hb⟩; refine ⟨_, rfl, ?_⟩; have n0_ := Aside0.mk (blk_below (g := gb140) (o := .cells #[.slice A0_0 l0_0.length c0_0, .slice A0_1 l0_1.length c0_1] 26 (0, 0)) (by (with_reducible repeat (first | refine blk_drewN ?_ _ | refine blk_drew ?_ | refine blk_alloc ?_ _)); exact BK140.out) hb); have n1_ := Aside0.mk (blk_below (g := gb141) (o := .cells #[.int .i64 0, .int .i64 0, .int .i64 0] 59 (0, 0)) (by (with_reducible repeat (first | refine blk_drewN ?_ _ | refine blk_drew ?_ | refine blk_alloc ?_ _)); exact BK141.out) hb); have n2_ := Aside0.mk (below_step (by repeat (first | (with_reducible first | exact HB.out | apply below_alloc | apply pw_below_drewN | apply below_drew1 | refine below_set ?_ GE140.out | refine below_set ?_ GE141.out) | exact HB.out)) hb); clear BK140; clear BK141; clear HB; have BK140 := n0_; have BK141 := n1_; have HB := n2_; clear n0_ n1_ n2_; (try clear hb); (try clear hb2); (try clear hk); (try clear hi); have hcz12_0 : w11.cell? ⟨gb140, 0, none⟩ = some (.slice A0_0 l0_0.length c0_0) := (blk_cell BK140.out 0).trans rfl; have hcz12_1 : w11.cell? ⟨gb140, 1, none⟩ = some (.slice A0_1 l0_1.length c0_1) := (blk_cell BK140.out 1).trans rfl; have hfz12_0 := blk_frozen BK140.out 0; have hfz12_1 := blk_frozen BK140.out 1; have p144 : 0 ≤ (t142 : Int) := of_decide_eq_true (by first | (with_reducible assumption) | assumption); have q144 : t142 < (l0_1.length : Int) := of_decide_eq_true (by first | (with_reducible assumption) | assumption); obtain ⟨ad144, e144, hx144_0, hx144_1, hx144_2⟩ := at_T59 HR0_1.out t142 p144 q144; cases e144; replace hx144_0 := (HB.out.cell (World.block_lt_of_cell? w _ hx144_0)).trans hx144_0; replace hx144_1 := (HB.out.cell (World.block_lt_of_cell? w _ hx144_1)).trans hx144_1; replace hx144_2 := (HB.out.cell (World.block_lt_of_cell? w _ hx144_2)).trans hx144_2; replace p144 := eq_true p144; replace q144 := eq_true q144; have hcz13_0 : w11.cell? ⟨gb141, 0, none⟩ = some (.int .i64 0) := (blk_cell BK141.out 0).trans rfl; have hcz13_1 : w11.cell? ⟨gb141, 1, none⟩ = some (.int .i64 0) := (blk_cell BK141.out 1).trans rfl; have hcz13_2 : w11.cell? ⟨gb141, 2, none⟩ = some (.int .i64 0) := (blk_cell BK141.out 2).trans rfl; have hfz13_0 := blk_frozen BK141.out 0; have hfz13_1 := blk_frozen BK141.out 1; have hfz13_2 := blk_frozen BK141.out 2))
        refine bodyPost_ret (results_cell_row rfl _ _ gb141 59 #[.int .i64 ((rd_T59 l0_1 t142).f0), .int .i64 ((rd_T59 l0_1 t142).f1), .int .i64 ((rd_T59 l0_1 t142).f2)] (0, 0) _ rfl (by (with_reducible repeat (first | refine blk_drewN ?_ _ | refine blk_drew ?_ | refine blk_alloc ?_ _)); refine blk_put (cs := #[.int .i64 ((rd_T59 l0_1 t142).f0), .int .i64 ((rd_T59 l0_1 t142).f1), .int .i64 0]) ?_ 2 _ rfl; (with_reducible repeat (first | refine blk_drewN ?_ _ | refine blk_drew ?_ | refine blk_alloc ?_ _)); refine blk_put (cs := #[.int .i64 ((rd_T59 l0_1 t142).f0), .int .i64 0, .int .i64 0]) ?_ 1 _ rfl; (with_reducible repeat (first | refine blk_drewN ?_ _ | refine blk_drew ?_ | refine blk_alloc ?_ _)); refine blk_put (cs := #[.int .i64 0, .int .i64 0, .int .i64 0]) ?_ 0 _ rfl; (with_reducible repeat (first | refine blk_drewN ?_ _ | refine blk_drew ?_ | refine blk_alloc ?_ _)); exact BK141.out) Try.underlying59 rfl (by kernel_rfl)) rfl ?_
        exact ⟨by first | rfl | (simp [errW_none, errW_some] <;> rfl) | (simp [*, errW_none, errW_some] <;> rfl), by repeat (first | (with_reducible first | exact HB.out | apply below_alloc | apply pw_below_drewN | apply below_drew1 | refine below_set ?_ GE140.out | refine below_set ?_ GE141.out) | exact HB.out)⟩
      · rw [if_neg c6] at H
        exact absurd H (by simp)
    · rw [if_neg c5] at H
      exact absurd H (by simp)
  · replace c4 := Bool.eq_false_iff.mpr c4
    subst c4
    have H1 : (some (0, 0, 0)) = some (r1, r2, r3) := by rw [if_neg (show ¬ (false = true) by decide)] at H; exact H
    clear H
    have H := H1
    clear H1
    simp only [Option.some.injEq, Prod.mk.injEq] at H
    obtain ⟨rfl, rfl, rfl⟩ := H
    go_enter Try.func35, Try.ntmps35
    go_wp2_with (first | ((with_reducible refine gate_dst (N := 2) rfl ?_); refine box_event ?hg (N := 2) ?hd (cs := #[.slice A0_0 l0_0.length c0_0, .slice A0_1 l0_1.length c0_1]) (t := 26) ?hr ?_; (case hd => rfl); (case hg => rfl); (case hr => first | (go_simp; done) | (go_simp; rfl)); intro gb140 hg w14 hbox hb; have n0_ := Aside0.mk (below_step (by repeat (first | (with_reducible first | exact HB.out | apply below_alloc | apply pw_below_drewN | apply below_drew1) | exact HB.out)) hb); have n1_ := Aside0.mk (hbox); have n2_ := Aside0.mk ((by rw [hg]; exact (below_size (by repeat (first | (with_reducible first | exact HB.out | apply below_alloc | apply pw_below_drewN | apply below_drew1) | exact HB.out))) : w.heap.size ≤ gb140)); have n3_ := Aside0.mk ((by rw [hg]; exact (below_size (by repeat (first | (with_reducible first | exact HB.out | apply below_alloc | apply pw_below_drewN | apply below_drew1) | exact HB.out))) : w.heap.size ≤ gb140)); clear HB; have HB := n0_; have BK140 := n1_; have GW140 := n2_; have GE140 := n3_; clear n0_ n1_ n2_ n3_; clear hb hbox hg) | ((with_reducible refine gate_dst (N := 4) rfl ?_); refine box_event ?hg (N := 4) ?hd (cs := #[.int .i64 0, .int .i64 0, .int .i64 0]) (t := 59) ?hr ?_; (case hd => rfl); (case hg => rfl); (case hr => first | (go_simp; done) | (go_simp; rfl)); intro gb141 hg w15 hbox hb; have n0_ := Aside0.mk (blk_below (g := gb140) (o := .cells #[.slice A0_0 l0_0.length c0_0, .slice A0_1 l0_1.length c0_1] 26 (0, 0)) (by (with_reducible repeat (first | refine blk_drewN ?_ _ | refine blk_drew ?_ | refine blk_alloc ?_ _)); exact BK140.out) hb); have n1_ := Aside0.mk (below_step (by repeat (first | (with_reducible first | exact HB.out | apply below_alloc | apply pw_below_drewN | apply below_drew1 | refine below_set ?_ GE140.out) | exact HB.out)) hb); have n2_ := Aside0.mk (hbox); have n3_ := Aside0.mk ((by rw [hg]; exact (below_size (by repeat (first | (with_reducible first | exact HB.out | apply below_alloc | apply pw_below_drewN | apply below_drew1 | refine below_set ?_ GE140.out) | exact HB.out))) : w.heap.size ≤ gb141)); have n4_ := Aside0.mk ((by rw [hg]; exact (below_size (by repeat (first | (with_reducible first | exact HB.out | apply below_alloc | apply pw_below_drewN | apply below_drew1 | refine below_set ?_ GE140.out) | exact HB.out))) : w.heap.size ≤ gb141)); have n5_ := Aside0.mk ((by rw [hg]; exact Nat.ne_of_lt (blk_lt (g := gb140) (o := .cells #[.slice A0_0 l0_0.length c0_0, .slice A0_1 l0_1.length c0_1] 26 (0, 0)) (by (with_reducible repeat (first | refine blk_drewN ?_ _ | refine blk_drew ?_ | refine blk_alloc ?_ _)); exact BK140.out)) : gb140 ≠ gb141)); have n6_ := Aside0.mk ((by rw [hg]; exact Nat.ne_of_gt (blk_lt (g := gb140) (o := .cells #[.slice A0_0 l0_0.length c0_0, .slice A0_1 l0_1.length c0_1] 26 (0, 0)) (by (with_reducible repeat (first | refine blk_drewN ?_ _ | refine blk_drew ?_ | refine blk_alloc ?_ _)); exact BK140.out)) : gb141 ≠ gb140)); clear BK140; clear HB; have BK140 := n0_; have HB := n1_; have BK141 := n2_; have GW141 := n3_; have GE141 := n4_; have NB140_141 := n5_; have NB141_140 := n6_; clear n0_ n1_ n2_ n3_ n4_ n5_ n6_; clear hb hbox hg; have hnb16 := NB140_141.out; have hnc16 := NB141_140.out; have hcz17_0 : w15.cell? ⟨gb140, 0, none⟩ = some (.slice A0_0 l0_0.length c0_0) := (blk_cell BK140.out 0).trans rfl; have hcz17_1 : w15.cell? ⟨gb140, 1, none⟩ = some (.slice A0_1 l0_1.length c0_1) := (blk_cell BK140.out 1).trans rfl; have hfz17_0 := blk_frozen BK140.out 0; have hfz17_1 := blk_frozen BK140.out 1) | ((with_reducible refine gate_callee (f := 38) rfl ?_); refine goesL_ (some 11) rfl rfl Try.func38 (by kernel_rfl) rfl #[.slice A0_1 l0_1.length c0_1, .int .i64 a1, .func (.func 39) #[] #[]] rfl (by (try simp only [List.map_toArray, List.map_cons, List.map_nil]); first | done | rfl | (simp only [List.length_drop, List.length_take]; rfl)) ?_; (with_reducible refine (api_Fault_int.calls k _ _ l0_1 a1 39 t142 false _ ?side1 ?side2 A3.out).mono ?_); (case side1 => repeat (first | exact (Kd.C_below HR0_1.out HB.out) | (with_reducible refine Kd.C_alloc ?_ _) | (with_reducible refine Kd.C_drewN ?_ _) | (with_reducible refine Kd.C_drew ?_))); (case side2 => exact HC0_1.out); rintro e w18 ⟨rfl, hb⟩; refine ⟨_, rfl, ?_⟩; have n0_ := Aside0.mk (blk_below (g := gb140) (o := .cells #[.slice A0_0 l0_0.length c0_0, .slice A0_1 l0_1.length c0_1] 26 (0, 0)) (by (with_reducible repeat (first | refine blk_drewN ?_ _ | refine blk_drew ?_ | refine blk_alloc ?_ _)); exact BK140.out) hb); have n1_ := Aside0.mk (blk_below (g := gb141) (o := .cells #[.int .i64 0, .int .i64 0, .int .i64 0] 59 (0, 0)) (by (with_reducible repeat (first | refine blk_drewN ?_ _ | refine blk_drew ?_ | refine blk_alloc ?_ _)); exact BK141.out) hb); have n2_ := Aside0.mk (below_step (by repeat (first | (with_reducible first | exact HB.out | apply below_alloc | apply pw_below_drewN | apply below_drew1 | refine below_set ?_ GE140.out | refine below_set ?_ GE141.out) | exact HB.out)) hb); clear BK140; clear BK141; clear HB; have BK140 := n0_; have BK141 := n1_; have HB := n2_; clear n0_ n1_ n2_; (try clear hb); (try clear hb2); (try clear hk); (try clear hi); have hcz19_0 : w18.cell? ⟨gb141, 0, none⟩ = some (.int .i64 0) := (blk_cell BK141.out 0).trans rfl; have hcz19_1 : w18.cell? ⟨gb141, 1, none⟩ = some (.int .i64 0) := (blk_cell BK141.out 1).trans rfl; have hcz19_2 : w18.cell? ⟨gb141, 2, none⟩ = some (.int .i64 0) := (blk_cell BK141.out 2).trans rfl; have hfz19_0 := blk_frozen BK141.out 0; have hfz19_1 := blk_frozen BK141.out 1; have hfz19_2 := blk_frozen BK141.out 2))
    refine bodyPost_ret (results_cell_row rfl _ _ gb141 59 #[.int .i64 0, .int .i64 0, .int .i64 0] (0, 0) _ rfl (by (with_reducible repeat (first | refine blk_drewN ?_ _ | refine blk_drew ?_ | refine blk_alloc ?_ _)); refine blk_put (cs := #[.int .i64 0, .int .i64 0, .int .i64 0]) ?_ 2 _ rfl; (with_reducible repeat (first | refine blk_drewN ?_ _ | refine blk_drew ?_ | refine blk_alloc ?_ _)); refine blk_put (cs := #[.int .i64 0, .int .i64 0, .int .i64 0]) ?_ 1 _ rfl; (with_reducible repeat (first | refine blk_drewN ?_ _ | refine blk_drew ?_ | refine blk_alloc ?_ _)); refine blk_put (cs := #[.int .i64 0, .int .i64 0, .int .i64 0]) ?_ 0 _ rfl; (with_reducible repeat (first | refine blk_drewN ?_ _ | refine blk_drew ?_ | refine blk_alloc ?_ _)); exact BK141.out) Try.underlying59 rfl (by kernel_rfl)) rfl ?_
    exact ⟨by first | rfl | (simp [errW_none, errW_some] <;> rfl) | (simp [*, errW_none, errW_some] <;> rfl), by repeat (first | (with_reducible first | exact HB.out | apply below_alloc | apply pw_below_drewN | apply below_drew1 | refine below_set ?_ GE140.out | refine below_set ?_ GE141.out) | exact HB.out)⟩

/-! ### drive_answer: function 26 -/
set_option maxHeartbeats 4000000 in
set_option maxRecDepth 100000 in
theorem drive_answer.calls (k : Nat) (A0 : Option Addr) (c0 : Nat) (D : List Int) (A1 : Option Addr) (c1 : Nat) (F : List S59) (blk t : Int) (f : Int × Int × Int) (w : World) (hr0 : Kd.C (Kd.int .u8) w A0 D.length D) (hc0 : D.length ≤ c0) (hr1 : Kd.C k59 w A1 F.length F) (hc1 : F.length ≤ c1)
    (h : drive_fault.f k D F blk = some f) (q1 : 0 ≤ blk) (q2 : blk * 64 + 64 ≤ (D.length : Int)) (q3 : D.length ≤ 65536) :
    Calls Try.prog 26 #[.agg #[.slice A0 D.length c0, .slice A1 F.length c1], .int .i64 blk, .int .i64 t] w fun e w' => ∃ (A' : Option Addr) (c' : Nat), e = .returned (.tuple #[.slice A' (ansR D blk f t).length c', .int .i64 (ansT f), .int .i64 (ansE f t)]) ∧ (∀ W : World, Kd.C (Kd.int .u8) W A0 D.length D → Kd.C (Kd.int .u8) W A' (ansR D blk f t).length (ansR D blk f t)) ∧ (ansR D blk f t).length ≤ c' ∧ Below w.heap.size w w' := by
  obtain ⟨f0, f1, f2⟩ := f
  obtain ⟨row, hrow⟩ : ∃ row, row = (D.drop (blk * 64).toNat).take 64 := ⟨_, rfl⟩
  have hlen : row.length = 64 := by rw [hrow, List.length_take, List.length_drop]; omega
  obtain ⟨i0, hi0, _, hsz, _⟩ := info_parts info5
  have hcut := cut_mid (P := Try.prog) 23 5 .i64 .i64 Try.underlying23 hi0 1 hsz A0 D.length c0 (blk * 64) ((blk + 1) * 64) (by omega) (by omega) (by omega) hc0
  have el : ((blk + 1) * 64).toNat - (blk * 64).toNat = row.length := by omega
  rw [el] at hcut
  have HCUT : Aside0 (∀ W : World, Kd.C (Kd.int .u8) W A0 D.length D → Kd.C (Kd.int .u8) W (if c0 = (blk * 64).toNat then A0 else A0.map (·.add ((blk * 64).toNat * 1))) row.length row) := ⟨fun W hW => by
    have h1 := Kd.C_drop hW (m := (blk * 64).toNat) (c := c0) (by omega) hc0
    have h2 := Kd.C_take (m := 64) h1 (by rw [List.length_drop]; omega)
    rw [← hrow] at h2
    exact h2⟩
  have HLEN := Aside0.mk (show row.length ≤ c0 - (blk * 64).toNat from by omega)
  generalize (if c0 = (blk * 64).toNat then A0 else A0.map (·.add ((blk * 64).toNat * 1))) = AC at hcut HCUT
  have HROW := Aside0.mk hrow
  have H := Aside0.mk h
  have HR0 := Aside0.mk hr0
  have HR1 := Aside0.mk hr1
  have HC0 := Aside0.mk hc0
  have HC1 := Aside0.mk hc1
  clear h hr0 hr1 hc0 hc1 hrow hlen el hi0 hsz
  go_enter Try.func26, Try.ntmps26
  go_upto_region 1 with (first | ((with_reducible refine gate_dst (N := 3) rfl ?_); refine box_event ?hg (N := 3) ?hd (cs := #[.slice A0 D.length c0, .slice A1 F.length c1]) (t := 26) ?hr ?_; (case hd => rfl); (case hg => rfl); (case hr => first | (go_simp; done) | (go_simp; rfl)); intro g1 hg W1 hbox hb; have BK1 := Aside0.mk hbox; have HB1 := Aside0.mk (below_step (Below.refl _ _) hb); clear hb hbox hg))
  have x0 : W1.cell? ⟨g1, 0, none⟩ = some (.slice A0 D.length c0) := (blk_cell BK1.out 0).trans rfl
  have x1 : W1.cell? ⟨g1, 1, none⟩ = some (.slice A1 F.length c1) := (blk_cell BK1.out 1).trans rfl
  go_upto_region 2 with (first | (go_at_call 35; refine (drive_fault.calls k A0 c0 D A1 c1 F blk f0 f1 f2 _ (Kd.C_below HR0.out HB1.out) HC0.out (Kd.C_below HR1.out HB1.out) HC1.out H.out).mono ?_; rintro e w2 ⟨rfl, hb⟩; have HB2 := Aside0.mk (below_step HB1.out hb); have HS2 := Aside0.mk hb; have BK2 := Aside0.mk (blk_below BK1.out hb); clear hb) | ((with_reducible refine gate_dst (N := 9) rfl ?_); refine box_event ?hg (N := 9) ?hd (cs := #[.int .i64 0, .int .i64 0, .int .i64 0]) (t := 59) ?hr ?_; (case hd => rfl); (case hg => rfl); (case hr => first | (go_simp; done) | (go_simp; rfl)); intro g2 hg W3 hbox hb; have BK3 := Aside0.mk hbox; have HB3 := Aside0.mk (below_step HB2.out hb); have GE3 := Aside0.mk (show w.heap.size ≤ g2 from by rw [hg]; exact below_size HB2.out); have BK1' := Aside0.mk (blk_below BK2.out hb); have HS3 := Aside0.mk (below_step HS2.out hb); have GX3 := Aside0.mk (show W1.heap.size ≤ g2 from by rw [hg]; exact below_size HS2.out); have z0 : W3.cell? ⟨g2, 0, none⟩ = some (.int .i64 0) := (blk_cell BK3.out 0).trans rfl; have z1 : W3.cell? ⟨g2, 1, none⟩ = some (.int .i64 0) := (blk_cell BK3.out 1).trans rfl; have z2 : W3.cell? ⟨g2, 2, none⟩ = some (.int .i64 0) := (blk_cell BK3.out 2).trans rfl; have fz0 := blk_frozen BK3.out 0; have fz1 := blk_frozen BK3.out 1; have fz2 := blk_frozen BK3.out 2; have NE := Aside0.mk (show g1 ≠ g2 from by rw [hg]; exact Nat.ne_of_lt (blk_lt BK2.out)); clear hb hbox hg))
  have BKZ : (((W3.setCell ⟨g2, 0, none⟩ (.int .i64 f0)).setCell ⟨g2, 1, none⟩ (.int .i64 f1)).setCell ⟨g2, 2, none⟩ (.int .i64 f2)).heap[g2]? = some (.cells #[.int .i64 f0, .int .i64 f1, .int .i64 f2] 59 (0, 0)) := blk_put (cs := #[.int .i64 f0, .int .i64 f1, .int .i64 0]) (blk_put (cs := #[.int .i64 f0, .int .i64 0, .int .i64 0]) (blk_put (cs := #[.int .i64 0, .int .i64 0, .int .i64 0]) BK3.out 0 _ rfl) 1 _ rfl) 2 _ rfl
  have HBZ0 : Below w.heap.size w (((W3.setCell ⟨g2, 0, none⟩ (.int .i64 f0)).setCell ⟨g2, 1, none⟩ (.int .i64 f1)).setCell ⟨g2, 2, none⟩ (.int .i64 f2)) := below_set (below_set (below_set HB3.out GE3.out) GE3.out) GE3.out
  have HGZ : Below W1.heap.size W1 (((W3.setCell ⟨g2, 0, none⟩ (.int .i64 f0)).setCell ⟨g2, 1, none⟩ (.int .i64 f1)).setCell ⟨g2, 2, none⟩ (.int .i64 f2)) := below_set (below_set (below_set (HS3.out) GX3.out) GX3.out) GX3.out
  clear z0 z1 z2 fz0 fz1 fz2 BK2 BK1' HB2 HB3 BK3 x0 x1
  generalize (((W3.setCell ⟨g2, 0, none⟩ (.int .i64 f0)).setCell ⟨g2, 1, none⟩ (.int .i64 f1)).setCell ⟨g2, 2, none⟩ (.int .i64 f2)) = WZ at BKZ HBZ0 HGZ ⊢
  have y1 : WZ.cell? ⟨g2, 1, none⟩ = some (.int .i64 f1) := (blk_cell BKZ 1).trans rfl
  have y2 : WZ.cell? ⟨g2, 2, none⟩ = some (.int .i64 f2) := (blk_cell BKZ 2).trans rfl
  have x0 : WZ.cell? ⟨g1, 0, none⟩ = some (.slice A0 D.length c0) := (blk_cell (blk_below BK1.out HGZ) 0).trans rfl
  clear BKZ HGZ BK1 HB1
  have HBZ : Aside0 (Below w.heap.size w WZ) := ⟨HBZ0⟩
  clear HBZ0
  by_cases hk : f1 = 3
  · have t1 : (f1 == 1) = false := beq_eq_false_iff_ne.mpr (by omega)
    have t2 : (f1 == 2) = false := beq_eq_false_iff_ne.mpr (by omega)
    have t3 : (f1 == 3) = true := beq_iff_eq.mpr hk
    have eE : ansE (f0, f1, f2) t = 0 := by unfold ansE; rw [if_neg (by rintro (h | ⟨h, h'⟩) <;> first | (have h1 : f1 = 1 := h; omega) | (have h2 : f1 = 2 := h; have h3 : t < f2 := h'; omega))]
    have eT : ansT (f0, f1, f2) = f2 := by unfold ansT; exact if_pos hk
    have ER := Aside0.mk (show ansR D blk (f0, f1, f2) t = row from by unfold ansR; rw [eE, if_pos rfl, HROW.out])
    have EE := Aside0.mk eE
    have ET := Aside0.mk eT
    clear eE eT hk
    go_wp2
    exact bodyPost_ret (v := .tuple #[.slice AC row.length (c0 - (blk * 64).toNat), .int .i64 f2, .int .i64 0]) (by simp [results, Try.results26, go_sem]) rfl ⟨AC, c0 - (blk * 64).toNat, by rw [ER.out, ET.out, EE.out], fun W hW => by rw [ER.out]; exact HCUT.out W hW, by rw [ER.out]; exact HLEN.out, HBZ.out⟩
  · by_cases hk1 : f1 = 1
    · have hk := hk1
      have t1 : (f1 == 1) = true := beq_iff_eq.mpr hk
      have t2 : (f1 == 2) = false := beq_eq_false_iff_ne.mpr (by omega)
      have t3 : (f1 == 3) = false := beq_eq_false_iff_ne.mpr (by omega)
      have eE : ansE (f0, f1, f2) t = 19 := by unfold ansE; rw [if_pos (by first | (left; exact hk) | (right; exact ⟨hk, hl⟩))]
      have eT : ansT (f0, f1, f2) = 1 := by unfold ansT; exact if_neg (by show ¬ f1 = 3; omega)
      have ER := Aside0.mk (show ansR D blk (f0, f1, f2) t = [] from by unfold ansR; rw [eE, if_neg (by decide)])
      have EE := Aside0.mk eE
      have ET := Aside0.mk eT
      clear eE eT hk
      go_wp2
      exact bodyPost_ret (v := .tuple #[.slice none 0 0, .int .i64 1, .int .i64 19]) (by simp [results, Try.results26, go_sem]) rfl ⟨none, 0, by rw [ER.out, ET.out, EE.out]; rfl, fun _ _ => by rw [ER.out]; exact Kd.C_nil _ _, by rw [ER.out]; exact Nat.le_refl _, HBZ.out⟩
    · by_cases hk2 : f1 = 2
      · by_cases hl : t < f2
        · have hk := hk2
          have t1 : (f1 == 1) = false := beq_eq_false_iff_ne.mpr (by omega)
          have t2 : (f1 == 2) = true := beq_iff_eq.mpr hk
          have t3 : (f1 == 3) = false := beq_eq_false_iff_ne.mpr (by omega)
          have t4 : decide (t < f2) = true := decide_eq_true hl
          have eE : ansE (f0, f1, f2) t = 19 := by unfold ansE; rw [if_pos (by first | (left; exact hk) | (right; exact ⟨hk, hl⟩))]
          have eT : ansT (f0, f1, f2) = 1 := by unfold ansT; exact if_neg (by show ¬ f1 = 3; omega)
          have ER := Aside0.mk (show ansR D blk (f0, f1, f2) t = [] from by unfold ansR; rw [eE, if_neg (by decide)])
          have EE := Aside0.mk eE
          have ET := Aside0.mk eT
          clear eE eT hk hl
          go_wp2
          exact bodyPost_ret (v := .tuple #[.slice none 0 0, .int .i64 1, .int .i64 19]) (by simp [results, Try.results26, go_sem]) rfl ⟨none, 0, by rw [ER.out, ET.out, EE.out]; rfl, fun _ _ => by rw [ER.out]; exact Kd.C_nil _ _, by rw [ER.out]; exact Nat.le_refl _, HBZ.out⟩
        · have hk := hk2
          have t1 : (f1 == 1) = false := beq_eq_false_iff_ne.mpr (by omega)
          have t2 : (f1 == 2) = true := beq_iff_eq.mpr hk
          have t3 : (f1 == 3) = false := beq_eq_false_iff_ne.mpr (by omega)
          have t4 : decide (t < f2) = false := decide_eq_false hl
          have eE : ansE (f0, f1, f2) t = 0 := by unfold ansE; rw [if_neg (by rintro (h | ⟨h, h'⟩) <;> first | (have h1 : f1 = 1 := h; omega) | (have h2 : f1 = 2 := h; have h3 : t < f2 := h'; omega))]
          have eT : ansT (f0, f1, f2) = 1 := by unfold ansT; exact if_neg (by show ¬ f1 = 3; omega)
          have ER := Aside0.mk (show ansR D blk (f0, f1, f2) t = row from by unfold ansR; rw [eE, if_pos rfl, HROW.out])
          have EE := Aside0.mk eE
          have ET := Aside0.mk eT
          clear eE eT hk hl
          go_wp2
          exact bodyPost_ret (v := .tuple #[.slice AC row.length (c0 - (blk * 64).toNat), .int .i64 1, .int .i64 0]) (by simp [results, Try.results26, go_sem]) rfl ⟨AC, c0 - (blk * 64).toNat, by rw [ER.out, ET.out, EE.out], fun W hW => by rw [ER.out]; exact HCUT.out W hW, by rw [ER.out]; exact HLEN.out, HBZ.out⟩
      · have hk : f1 ≠ 3 := hk
        have t1 : (f1 == 1) = false := beq_eq_false_iff_ne.mpr (by omega)
        have t2 : (f1 == 2) = false := beq_eq_false_iff_ne.mpr (by omega)
        have t3 : (f1 == 3) = false := beq_eq_false_iff_ne.mpr (by omega)
        have eE : ansE (f0, f1, f2) t = 0 := by unfold ansE; rw [if_neg (by rintro (h | ⟨h, h'⟩) <;> first | (have h1 : f1 = 1 := h; omega) | (have h2 : f1 = 2 := h; have h3 : t < f2 := h'; omega))]
        have eT : ansT (f0, f1, f2) = 1 := by unfold ansT; exact if_neg (by show ¬ f1 = 3; omega)
        have ER := Aside0.mk (show ansR D blk (f0, f1, f2) t = row from by unfold ansR; rw [eE, if_pos rfl, HROW.out])
        have EE := Aside0.mk eE
        have ET := Aside0.mk eT
        clear eE eT hk
        go_wp2
        exact bodyPost_ret (v := .tuple #[.slice AC row.length (c0 - (blk * 64).toNat), .int .i64 1, .int .i64 0]) (by simp [results, Try.results26, go_sem]) rfl ⟨AC, c0 - (blk * 64).toNat, by rw [ER.out, ET.out, EE.out], fun W hW => by rw [ER.out]; exact HCUT.out W hW, by rw [ER.out]; exact HLEN.out, HBZ.out⟩

/-! ### drive_Disk_Read: function 12 -/
set_option maxHeartbeats 4000000 in
set_option maxRecDepth 100000 in
theorem drive_Disk_Read.calls (k m n g : Nat) (D : List Int) (F : List S59) (mp : Int → Int) (N : Nat) (tm blk : Int) (f : Int × Int × Int) (w : World) (hI : IsDisk m n w g D F mp N tm) (hm : m ≤ w.heap.size) (h : drive_fault.f k D F blk = some f) (q1 : 0 ≤ blk) (q2 : blk * 64 + 64 ≤ (D.length : Int)) (q3 : D.length ≤ 65536)
    (q4 : N ≤ 100000000) (q5 : 0 ≤ mp blk) (q6 : mp blk ≤ 100000000) (q7 : 0 ≤ tm) (q8 : tm ≤ 1000000000000) (q9 : 0 ≤ ansT f) (q10 : ansT f ≤ 100000000) :
    Calls Try.prog 12 #[.pointer (some ⟨g, 0, none⟩), .int .i64 blk] w fun e w' => ∃ v0_ : Value, e = .returned (.tuple #[v0_, .int .i64 (ansE f (mp blk + 1))]) ∧ Kd.R (Kd.int .u8) 5 w' w.heap.size (fun _ => True) v0_ (ansR D blk f (mp blk + 1)) ∧ IsDisk m n w' g D F (upd mp blk (mp blk + 1)) (N + 1) (tm + ansT f) ∧ Below m w w' ∧ (∀ k, n ≤ k → k < w.heap.size → w'.heap[k]? = w.heap[k]?) ∧ w.heap.size ≤ w'.heap.size := by
  obtain ⟨A, c, B, d, b, h1, h2, h3, h4, h5, h6, h7⟩ := hI
  have HIB : Aside0 (IsDisk m n w g D F mp N tm) := ⟨⟨A, c, B, d, b, h1, h2, h3, h4, h5, h6, h7⟩⟩
  have hwb : (Lit.int .i64 blk).wf = true := by simp [Lit.wf, IntKind.min, IntKind.max, IntKind.bits, IntKind.signed]; omega
  have hwv : (Lit.int .i64 (mp blk + 1)).wf = true := by simp [Lit.wf, IntKind.min, IntKind.max, IntKind.bits, IntKind.signed]; omega
  have l0 := h7.look blk hwb
  obtain ⟨w1, hput, hM1, hg1⟩ := h7.put (by unfold maxLen; omega) blk (mp blk + 1) hwb hwv
  have b1 : w1.heap[g]? = some (.cells #[.slice A D.length c, .slice B F.length d, .map (some b), .int .i64 tm] 65 (0, 0)) := (hg1.block g (blk_lt h1) (fun e => h4 (by injection e with e; exact e.symm))).trans h1
  have r5 : Kd.R (Kd.int .u8) 5 w1 m (fun k => k ≠ g ∧ k ≠ b ∧ k < n) (.slice A D.length c) D := Kd.R_step h5 (fun k ho hl => hg1.block k hl (fun e => ho.2.1 (by injection e)))
  have r6 : Kd.R k59 59 w1 m (fun k => k ≠ g ∧ k ≠ b ∧ k < n) (.slice B F.length d) F := Kd.R_step h6 (fun k ho hl => hg1.block k hl (fun e => ho.2.1 (by injection e)))
  have l1 : (Instr.lookup 63 (.map (some b)) (.int .i64 blk) false).run Try.prog w1 = .ok (.int .i64 (mp blk + 1)) w1 := by
    have := hM1.look blk hwb
    unfold upd at this
    rw [if_pos rfl] at this
    exact this
  have hMd : MapF w1.drew b (upd mp blk (mp blk + 1)) (N + 1) := hM1
  have l2 : (Instr.lookup 63 (.map (some b)) (.int .i64 blk) false).run Try.prog w1.drew = .ok (.int .i64 (mp blk + 1)) w1.drew := by
    have := hMd.look blk hwb
    unfold upd at this
    rw [if_pos rfl] at this
    exact this
  have x2 : w.cell? ⟨g, 2, none⟩ = some (.map (some b)) := (blk_cell h1 2).trans rfl
  have n3 : b < n := h3.2
  have n1 : g < n := h2.2
  have HK1 : Aside0 (∀ k, n ≤ k → k < w.heap.size → w1.heap[k]? = w.heap[k]?) := ⟨fun k a1 a2 => hg1.block k a2 (fun e => by injection e with e; omega)⟩
  have HSZ : Aside0 (w.heap.size ≤ w1.heap.size) := ⟨hg1.size⟩
  have N1 := Aside0.mk n1
  clear n1 n3
  have HB1 : Aside0 (Below m w w1) := ⟨(Below.refl m w).grown hg1 hm (fun k hk => by injection hk with hk; omega)⟩
  have HM1 := Aside0.mk hM1
  have BK1 := Aside0.mk b1
  have R5 := Aside0.mk r5
  have R6 := Aside0.mk r6
  have H := Aside0.mk h
  have G2 := Aside0.mk h2
  have G3 := Aside0.mk h3
  have G4 := Aside0.mk h4
  have hl3 : g < w1.heap.size := blk_lt b1
  have HT := Aside0.mk (show (ansT f) = ansT f from rfl)
  have t1 : decide (blk ≥ (D.length : Int) / 64) = false := decide_eq_false (by omega)
  have t1b : decide ((D.length : Int) / 64 ≤ blk) = false := decide_eq_false (by omega)
  have HNC := Aside0.mk (show slices_Clone_byte_byte.f (ansR D blk f (mp blk + 1)) = some (ansR D blk f (mp blk + 1)) from by unfold slices_Clone_byte_byte.f; rw [if_pos (by have := ansR_len D blk f (mp blk + 1); omega)])
  clear h1 h2 h3 h4 h5 h6 h7 hM1 hMd hg1 b1 r5 r6 h
  go_enter Try.func12, Try.ntmps12
  go_upto_region 3 with (go_at_call 10; refine (drive_Disk_Blocks.calls m n g D F mp N tm _ HIB.out).mono ?_; rintro e w' ⟨rfl, rfl⟩)
  go_upto_region 4 with (fail)
  clear x2 l0 hput
  have y0 : w1.cell? ⟨g, 0, none⟩ = some (.slice A D.length c) := (blk_cell BK1.out 0).trans rfl
  have y1 : w1.cell? ⟨g, 1, none⟩ = some (.slice B F.length d) := (blk_cell BK1.out 1).trans rfl
  have y2 : w1.cell? ⟨g, 2, none⟩ = some (.map (some b)) := (blk_cell BK1.out 2).trans rfl
  go_region_with (go_at_call 26; refine (drive_answer.calls k A c D B d F blk (mp blk + 1) f _ (Kd.C_below (Kd.R_reads' R5.out).2.2 (by repeat (first | (with_reducible first | exact Below.refl _ _ | apply below_alloc | apply pw_below_drewN | apply below_drew1) | exact Below.refl _ _))) (Kd.R_reads' R5.out).2.1 (Kd.C_below (Kd.R_reads' R6.out).2.2 (by repeat (first | (with_reducible first | exact Below.refl _ _ | apply below_alloc | apply pw_below_drewN | apply below_drew1) | exact Below.refl _ _))) (Kd.R_reads' R6.out).2.1 H.out q1 q2 q3).mono ?_; rintro e w2 ⟨A', c', rfl, hR, hc', hb⟩; have HS2 : Aside0 (Below w1.heap.size w1 w2) := ⟨below_step (by repeat (first | (with_reducible first | exact Below.refl _ _ | apply below_alloc | apply pw_below_drewN | apply below_drew1) | exact Below.refl _ _)) hb⟩; have HCR := Aside0.mk hR; have HCC := Aside0.mk hc'; clear hb hR hc')
  all_goals
    clear l1 l2 y0 y1 y2
    have BK2 := blk_below BK1.out HS2.out
    have y3 : w2.cell? ⟨g, 3, none⟩ = some (.int .i64 tm) := (blk_cell BK2 3).trans rfl
    have f3 := blk_frozen BK2 3
    go_upto_region 6 with (fail)
    have hgs := grown_set w2 g 3 (.int .i64 (tm + ansT f))
    have BK3 : (w2.setCell ⟨g, 3, none⟩ (.int .i64 (tm + ansT f))).heap[g]? = some (.cells #[.slice A D.length c, .slice B F.length d, .map (some b), .int .i64 (tm + ansT f)] 65 (0, 0)) := blk_put BK2 3 _ rfl
    have HB3 : Below m w (w2.setCell ⟨g, 3, none⟩ (.int .i64 (tm + ansT f))) := Below.setCell (HB1.out.trans (HS2.out.mono (Nat.le_trans hm HB1.out.size))) (p := ⟨g, 3, none⟩) G2.out.1 _
    clear y3 f3 BK2
    generalize w2.setCell ⟨g, 3, none⟩ (.int .i64 (tm + ansT f)) = W3 at hgs BK3 HB3 ⊢
    have P5 := Aside0.mk (Kd.R_step (Kd.R_below R5.out HS2.out) (fun k ho hl => hgs.block k hl (fun e => ho.1 (by injection e))))
    have P6 := Aside0.mk (Kd.R_step (Kd.R_below R6.out HS2.out) (fun k ho hl => hgs.block k hl (fun e => ho.1 (by injection e))))
    have PM := Aside0.mk ((HM1.out.below HS2.out).kept hgs (fun e => G4.out (by injection e)))
    have PB := Aside0.mk BK3
    have PH := Aside0.mk HB3
    have PK : Aside0 (∀ k, n ≤ k → k < w.heap.size → W3.heap[k]? = w.heap[k]?) := ⟨fun k a1 a2 => ((hgs.block k (Nat.lt_of_lt_of_le a2 (Nat.le_trans HSZ.out HS2.out.size)) (fun e => by injection e with e; have := N1.out; omega)).trans (HS2.out.block k (Nat.lt_of_lt_of_le a2 HSZ.out))).trans (HK1.out k a1 a2)⟩
    have PZ : Aside0 (w.heap.size ≤ W3.heap.size) := ⟨Nat.le_trans (Nat.le_trans HSZ.out HS2.out.size) hgs.size⟩
    have PC := Aside0.mk (HCR.out W3 (Kd.R_reads' P5.out).2.2)
    clear hgs BK3 HB3 HCR
    go_wp2_with (go_at_call 24; refine (slices_Clone_byte_byte.calls A' c' (ansR D blk f (mp blk + 1)) (ansR D blk f (mp blk + 1)) _ PC.out HCC.out HNC.out).mono ?_; rintro e w4 ⟨v4, rfl, hR, hb⟩; have HR4 := Aside0.mk hR; have HS4 := Aside0.mk hb; clear hR hb)
    go_ret2
    exact ⟨v4, rfl, Kd.R_lower HR4.out PH.out.size, ⟨A, c, B, d, b, blk_below PB.out HS4.out, G2.out, G3.out, G4.out, Kd.R_below P5.out HS4.out, Kd.R_below P6.out HS4.out, PM.out.below HS4.out⟩, PH.out.trans (HS4.out.mono (Nat.le_trans hm PH.out.size)), fun k a1 a2 => (HS4.out.block k (Nat.lt_of_lt_of_le a2 PZ.out)).trans (PK.out k a1 a2), Nat.le_trans PZ.out HS4.out.size⟩

end Go.Proofs.Ytcnabemeadnecaa.PPassPlans
